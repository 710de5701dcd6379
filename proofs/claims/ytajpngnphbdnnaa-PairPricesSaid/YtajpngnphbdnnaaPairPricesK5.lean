/- Proved here: what the proof of PairPrices rests on, part 5 of 5. Conditions: those that each theorem names. -/
import Derived.Test.YtajpngnphbdnnaaPairPricesK4
namespace Go.Proofs.Ytajpngnphbdnnaa.Abs
set_option linter.unusedSimpArgs false
set_option linter.unusedVariables false
open Go.RowKit
open Go.Proofs.Ytajpngnphbdnnaa.Sim
open Go.Proofs
set_option maxHeartbeats 8000000 in
set_option maxRecDepth 100000 in
theorem RWorth_ok {m : AM} {lv rv av bv : Value} {L R : List Gl} {u : Ru} {A B : List Int} (hl : Gls m lv L) (hr : Gls m rv R) (h1 : L.length ≤ 9223372036854775807) (h2 : R.length ≤ 9223372036854775807) (hok : okB L R u = true) (ha : Ints m av A) (hb : Ints m bv B) (hAl : A.length ≤ 9223372036854775807) (hBl : B.length ≤ 9223372036854775807)
    {s e : Int} {q : Bool} (hw : wrt (cT u L R) L.length R.length A B = (s, q, e)) : ACall Try.prog 38 #[lv, rv, u.v, av, bv] m (Ret (.tuple #[.int .i64 s, .bool q, .int .i64 e]) m) := by
  have r0 : ∀ T : AM, RdL (m ++ (some { cells := u.cells } :: T)) (m.length + 0) 0 u.cells := fun T => RdL.new rfl rfl
  have w2 := fun T => Good_ok (hl.old T) (hr.old T) h1 h2 hok
  obtain ⟨hL, hR, hu⟩ := okB_iff hok
  obtain ⟨hl32, hr32⟩ := okB_len hok
  have hcs := cT_cs hu hL hR
  refine ACall.drop (ren_tup3 _ _ _) ?_
  obtain ⟨ga, go, l1, l2, _⟩ := id hl
  obtain ⟨ha', ho', r1, r2, _⟩ := id hr
  obtain ⟨aa, ao, a1, a2, a3⟩ := id ha
  obtain ⟨ba, bo, b1, b2, b3⟩ := id hb
  obtain ⟨c, hceq⟩ : ∃ c, cT u L R = c := ⟨_, rfl⟩
  obtain ⟨l, hl'⟩ : ∃ l, L.length = l := ⟨_, rfl⟩
  obtain ⟨r, hr'⟩ : ∃ r, R.length = r := ⟨_, rfl⟩
  rw [hceq, hl', hr'] at hw
  rw [hceq] at hcs
  rw [hl'] at l1 hl32 h1
  rw [hr'] at r1 hr32 h2
  refine ACall.start Try.func38 rfl rfl ?_
  unfold wrt at hw
  by_cases hla : A.length = l
  · by_cases hlb : B.length = r
    · rw [if_pos ⟨hla, hlb⟩] at hw
      (repeat (first | (with_reducible refine AWo.cons ?_) | ((with_reducible refine Step.id ?_); first | ((with_reducible apply Step.gdT); exact rfl; exact rfl; (focus ((simp only [decide_eq_true_eq, decide_eq_false_iff_not, Bool.not_eq_true', Bool.not_eq_false', Bool.not_true, Bool.not_false]; first | assumption | omega)))) | ((with_reducible apply Step.move); exact rfl; exact rfl) | ((with_reducible apply Step.assign); exact rfl; exact rfl) | ((with_reducible apply Step.loadL (n := 8)); exact rfl; (focus (decide +kernel)); (focus (decide +kernel)); exact rfl; (focus (exact RdL.new rfl rfl)); exact rfl; exact rfl) | ((with_reducible apply Step.neq); exact rfl; exact rfl; exact rfl) | ((with_reducible apply Step.len); exact rfl; (focus (assumption)); (focus (decide +kernel)); exact rfl) | ((with_reducible apply Step.not); exact rfl; exact rfl) | ((with_reducible apply Step.pickF); exact rfl; exact rfl; exact rfl; exact rfl; (focus ((simp only [decide_eq_true_eq, decide_eq_false_iff_not, Bool.not_eq_true', Bool.not_eq_false', Bool.not_true, Bool.not_false]; first | assumption | omega)))) | ((with_reducible apply Step.callR fit); exact rfl; exact Try.func26; exact rfl; exact rfl; exact (w2 _)) | ((with_reducible apply Step.box 0); exact rfl; exact rfl; (focus (kernel_rfl)); exact rfl; (focus (first | (simp only [List.nil_append, List.cons_append, List.set_cons_zero, List.set_cons_succ, iv_set, bv_set, iv_rep, bv_rep]; done) | (simp only [List.nil_append, List.cons_append, List.set_cons_zero, List.set_cons_succ, iv_set, bv_set, iv_rep, bv_rep]; rfl) | rfl))) | ((with_reducible apply Step.buildS 1); exact rfl; exact rfl; exact (fun _ _ => bs27); exact rfl; (focus (first | (simp only [List.nil_append, List.cons_append, List.set_cons_zero, List.set_cons_succ, iv_set, bv_set, iv_rep, bv_rep]; done) | (simp only [List.nil_append, List.cons_append, List.set_cons_zero, List.set_cons_succ, iv_set, bv_set, iv_rep, bv_rep]; rfl) | rfl)))) | (with_reducible refine AWo.nil ?_) | ((with_reducible apply AW.seq)) | ((with_reducible apply Then.n)) | ((with_reducible apply AW.regL)) | ((with_reducible apply AW.skip)) | ((with_reducible apply AW.condF); exact rfl; (focus (first | rfl | (simp only [decide_eq_true_eq, decide_eq_false_iff_not, Bool.not_eq_true', Bool.not_eq_false', Bool.not_true, Bool.not_false]; first | assumption | omega))))))
      ((with_reducible apply Step.appJ (i := m.length + 1) (n := 0) (C := [])); exact rfl; exact rfl; exact rfl; exact (ha.old _); exact el27; exact un27; (focus (omega)); (focus (omega)); exact ⟨{ cells := [] }, by rw [get_app]; rfl, rfl, rfl, .inl rfl⟩; exact rfl)
      intro M1 j1 hj1 ho1 _ hN1
      rw [List.nil_append] at ho1 ⊢
      have hm1 : (∃ N, M1 = m ++ N) ∧ RdL M1 (m.length + 0) 0 u.cells ∧ m.length + 0 < j1 := by
        obtain ⟨N, rfl | rfl⟩ := hN1
        · refine ⟨⟨_, List.append_assoc ..⟩, (r0 _).old N, ?_⟩
          rcases hj1 with rfl | rfl <;> simp <;> omega
        · refine ⟨⟨_, by rw [List.set_append_right _ _ (by omega), List.append_assoc]⟩, ((r0 _).set (by omega)).old N, ?_⟩
          rcases hj1 with rfl | rfl <;> simp <;> omega
      clear hN1 hj1 r0 w2
      obtain ⟨⟨N1, rfl⟩, hbox1, hj1⟩ := hm1
      (repeat (first | (with_reducible refine AWo.cons ?_) | ((with_reducible refine Step.id ?_); ((with_reducible apply Step.move); exact rfl; exact rfl))))
      ((with_reducible apply Step.appJ (i := j1) (n := A.length) (C := A)); exact rfl; exact rfl; exact rfl; exact (hb.old _); exact el27; exact un27; (focus (omega)); (focus (omega)); exact ho1; exact rfl)
      intro M2 j2 _ ho2 _ hN2
      have hm2 : (∃ N, M2 = m ++ N) ∧ RdL M2 (m.length + 0) 0 u.cells := by
        obtain ⟨N, rfl | rfl⟩ := hN2
        · exact ⟨⟨_, List.append_assoc ..⟩, hbox1.old N⟩
        · exact ⟨⟨_, by rw [List.set_append_right _ _ (by omega), List.append_assoc]⟩, (hbox1.set (by omega)).old N⟩
      clear hN2 hbox1 ho1 hj1
      obtain ⟨hmN, hbox⟩ := hm2
      have hl2 : Gls M2 lv L := by obtain ⟨N, rfl⟩ := hmN; exact hl.old N
      have hr2 : Gls M2 rv R := by obtain ⟨N, rfl⟩ := hmN; exact hr.old N
      have ia2 : Ints M2 av A := by obtain ⟨N, rfl⟩ := hmN; exact ha.old N
      have ib2 : Ints M2 bv B := by obtain ⟨N, rfl⟩ := hmN; exact hb.old N
      obtain ⟨W, hW⟩ : ∃ W, A ++ B = W := ⟨_, rfl⟩
      have hWl : W.length ≤ 64 := by rw [← hW]; simp; omega
      rw [hW] at ho2 hw ⊢
      have hI : Ints M2 (.slice (some ⟨j2, 0, none⟩) W.length W.length) W := by
        obtain ⟨b, k1, k2, _⟩ := ho2
        exact ints_at k1 k2 _ rfl
      clear ho2 a1 a2 a3 b1 b2 b3
      generalize hv : Value.slice (some ⟨j2, 0, none⟩) W.length W.length = v at *
      obtain ⟨va, vo, v1, v2, v3⟩ := id hI
      (repeat (first | (with_reducible refine AWo.cons ?_) | ((with_reducible refine Step.id ?_); first | ((with_reducible apply Step.move); exact rfl; exact rfl) | ((with_reducible apply Step.len); exact rfl; (focus (assumption)); (focus (decide +kernel)); exact rfl)) | (with_reducible refine AWo.nil ?_) | ((with_reducible apply Then.n)) | ((with_reducible apply AW.block))))
      refine AW.rebase ?_
      refine AW.loopT (fun rk t L' => ∃ k : Nat, rk = W.length - k ∧ k ≤ W.length ∧ (∀ x ∈ W.take k, 0 ≤ x ∧ x ≤ 1000000000) ∧ L' = [] ∧ t = [(0, lv), (1, rv), (3, av), (4, bv), (7, .pointer (some ⟨m.length + 0, 0, none⟩)), (13, .int .i64 (W.take k).sum), (41, v), (42, .int .i64 (W.length : Nat)), (43, .int .i64 (k : Nat))])
        ⟨_, _, _, (Or.inl ⟨rfl, (by repeat (first | exact trivial | (refine And.intro rfl ?_)))⟩), 0, rfl, Nat.zero_le _, fun x hx => by simp at hx, rfl, rfl⟩ ?_
      rintro rk t L' ⟨k, rfl, hk, hp, rfl, rfl⟩
      have hsb := sum_bd9 hp
      have htl : ((W.take k).length : Int) ≤ 64 := by rw [List.length_take]; omega
      rcases Nat.lt_or_ge k W.length with hlt | hge
      · have rdv := v3 k hlt
        have hts := take_snoc W k 0 hlt
        have hmem : W.getD k 0 ∈ W := by
          have : W.getD k 0 = W[k] := by simp [hlt]
          rw [this]; exact List.getElem_mem hlt
        generalize W.getD k 0 = x at *
        by_cases hx : 0 ≤ x ∧ x ≤ 1000000000
        · obtain ⟨hx0, hx1⟩ := hx
          (repeat (first | (with_reducible refine AWo.cons ?_) | ((with_reducible refine Step.id ?_); first | ((with_reducible apply Step.gdT); exact rfl; exact rfl; (focus ((simp only [decide_eq_true_eq, decide_eq_false_iff_not, Bool.not_eq_true', Bool.not_eq_false', Bool.not_true, Bool.not_false]; first | assumption | omega)))) | ((with_reducible apply Step.move); exact rfl; exact rfl) | ((with_reducible apply Step.assign); exact rfl; exact rfl) | ((with_reducible apply Step.load); exact rfl; (focus (decide +kernel)); exact rfl; (focus (exact rdv.old _))) | ((with_reducible apply Step.ix1); exact rfl; (focus (assumption)); exact rfl; (focus (decide +kernel)); exact rfl; (focus (omega))) | ((with_reducible apply Step.add); exact rfl; exact rfl; (focus (omega)); exact rfl) | ((with_reducible apply Step.lss); exact rfl; exact rfl; exact rfl) | ((with_reducible apply Step.gtr); exact rfl; exact rfl; exact rfl) | ((with_reducible apply Step.pickF); exact rfl; exact rfl; exact rfl; exact rfl; (focus ((simp only [decide_eq_true_eq, decide_eq_false_iff_not, Bool.not_eq_true', Bool.not_eq_false', Bool.not_true, Bool.not_false]; first | assumption | omega))))) | (with_reducible refine AWo.nil ?_) | ((with_reducible apply AW.seq)) | ((with_reducible apply Then.n)) | ((with_reducible apply AW.regL)) | ((with_reducible apply AW.block)) | ((with_reducible apply InBlk.n)) | ((with_reducible apply AW.skip)) | ((with_reducible apply AW.condT); exact rfl; (focus ((simp only [decide_eq_true_eq, decide_eq_false_iff_not, Bool.not_eq_true', Bool.not_eq_false', Bool.not_true, Bool.not_false]; first | assumption | omega)))) | ((with_reducible apply AW.condF); exact rfl; (focus ((simp only [decide_eq_true_eq, decide_eq_false_iff_not, Bool.not_eq_true', Bool.not_eq_false', Bool.not_true, Bool.not_false]; first | assumption | omega))))))
          have hsum : (W.take (k + 1)).sum = (W.take k).sum + x := by rw [hts]; simp
          refine ⟨_, [(0, lv), (1, rv), (3, av), (4, bv), (7, .pointer (some ⟨m.length + 0, 0, none⟩)), (13, .int .i64 ((W.take k).sum + x)), (41, v), (42, .int .i64 (W.length : Nat)), (43, .int .i64 ((k + 1 : Nat) : Int))], _, by omega, (Or.inl ⟨rfl, (by repeat (first | exact trivial | (refine And.intro rfl ?_)))⟩), k + 1, rfl, by omega, fun y hy => ?_, rfl, by rw [hsum]⟩
          rw [hts] at hy
          rcases List.mem_append.1 hy with hy | hy
          · exact hp y hy
          · rw [List.mem_singleton.1 hy]; exact ⟨hx0, hx1⟩
        · rw [if_neg (fun h => hx (h x hmem))] at hw
          injection hw with e1 e2
          injection e2 with e2 e3
          subst e1 e2 e3
          by_cases hx0 : x < 0
          · (repeat (first | (with_reducible refine AWo.cons ?_) | ((with_reducible refine Step.id ?_); first | ((with_reducible apply Step.gdF); exact rfl; exact rfl; (focus ((simp only [decide_eq_true_eq, decide_eq_false_iff_not, Bool.not_eq_true', Bool.not_eq_false', Bool.not_true, Bool.not_false]; first | assumption | omega)))) | ((with_reducible apply Step.move); exact rfl; exact rfl) | ((with_reducible apply Step.assign); exact rfl; exact rfl) | ((with_reducible apply Step.load); exact rfl; (focus (decide +kernel)); exact rfl; (focus (exact rdv.old _))) | ((with_reducible apply Step.ix1); exact rfl; (focus (assumption)); exact rfl; (focus (decide +kernel)); exact rfl; (focus (omega))) | ((with_reducible apply Step.lss); exact rfl; exact rfl; exact rfl) | ((with_reducible apply Step.pickT); exact rfl; exact rfl; exact rfl; exact rfl; (focus ((simp only [decide_eq_true_eq, decide_eq_false_iff_not, Bool.not_eq_true', Bool.not_eq_false', Bool.not_true, Bool.not_false]; first | assumption | omega))))) | (with_reducible refine AWo.nil ?_) | ((with_reducible apply AW.seq)) | ((with_reducible apply Then.n)) | ((with_reducible apply AW.regL)) | ((with_reducible apply AW.block)) | ((with_reducible apply AW.skip)) | ((with_reducible apply AW.condT); exact rfl; (focus (first | rfl | (simp only [decide_eq_true_eq, decide_eq_false_iff_not, Bool.not_eq_true', Bool.not_eq_false', Bool.not_true, Bool.not_false]; first | assumption | omega))))))
            (refine AW.ret ?_; (repeat (first | refine Then.r ?_ | refine InBlk.r ?_)))
            obtain ⟨N, rfl⟩ := hmN
            exact ⟨_, rfl, rfl, N, by rw [List.append_nil]⟩
          · have hx1 : 1000000000 < x := by omega
            (repeat (first | (with_reducible refine AWo.cons ?_) | ((with_reducible refine Step.id ?_); first | ((with_reducible apply Step.gdT); exact rfl; exact rfl; (focus ((simp only [decide_eq_true_eq, decide_eq_false_iff_not, Bool.not_eq_true', Bool.not_eq_false', Bool.not_true, Bool.not_false]; first | assumption | omega)))) | ((with_reducible apply Step.move); exact rfl; exact rfl) | ((with_reducible apply Step.assign); exact rfl; exact rfl) | ((with_reducible apply Step.load); exact rfl; (focus (decide +kernel)); exact rfl; (focus (exact rdv.old _))) | ((with_reducible apply Step.ix1); exact rfl; (focus (assumption)); exact rfl; (focus (decide +kernel)); exact rfl; (focus (omega))) | ((with_reducible apply Step.lss); exact rfl; exact rfl; exact rfl) | ((with_reducible apply Step.gtr); exact rfl; exact rfl; exact rfl) | ((with_reducible apply Step.pickF); exact rfl; exact rfl; exact rfl; exact rfl; (focus ((simp only [decide_eq_true_eq, decide_eq_false_iff_not, Bool.not_eq_true', Bool.not_eq_false', Bool.not_true, Bool.not_false]; first | assumption | omega))))) | (with_reducible refine AWo.nil ?_) | ((with_reducible apply AW.seq)) | ((with_reducible apply Then.n)) | ((with_reducible apply AW.regL)) | ((with_reducible apply AW.block)) | ((with_reducible apply AW.skip)) | ((with_reducible apply AW.condT); exact rfl; (focus ((simp only [decide_eq_true_eq, decide_eq_false_iff_not, Bool.not_eq_true', Bool.not_eq_false', Bool.not_true, Bool.not_false]; first | assumption | omega))))))
            (refine AW.ret ?_; (repeat (first | refine Then.r ?_ | refine InBlk.r ?_)))
            obtain ⟨N, rfl⟩ := hmN
            exact ⟨_, rfl, rfl, N, by rw [List.append_nil]⟩
      have hkW : k = W.length := by omega
      subst k
      rw [List.take_of_length_le (Nat.le_refl _)] at hp hsb ⊢
      rw [if_pos (show prOk W from hp)] at hw
      (repeat (first | (with_reducible refine AWo.cons ?_) | ((with_reducible refine Step.id ?_); first | ((with_reducible apply Step.move); exact rfl; exact rfl) | ((with_reducible apply Step.loadL (n := 8)); exact rfl; (focus (decide +kernel)); (focus (decide +kernel)); exact rfl; (focus (exact RdL.old _ (by assumption))); exact rfl; exact rfl) | ((with_reducible apply Step.lss); exact rfl; exact rfl; exact rfl)) | (with_reducible refine AWo.nil ?_) | ((with_reducible apply AW.seq)) | ((with_reducible apply Then.n)) | ((with_reducible apply AW.regL)) | ((with_reducible apply AW.exit)) | ((with_reducible apply InBlk.hit)) | ((with_reducible apply Then.e)) | ((with_reducible apply AW.condF); exact rfl; (focus ((simp only [decide_eq_true_eq, decide_eq_false_iff_not, Bool.not_eq_true', Bool.not_eq_false', Bool.not_true, Bool.not_false]; first | assumption | omega))))))
      rw [List.append_nil]
      ((with_reducible apply Step.callX fit); exact rfl; exact Try.func59; exact rfl; exact rfl; exact (table_ok hl2 hr2 hL hR hu))
      rintro tv M3 ⟨N3, hN3⟩ hT
      have hmN : ∃ N, M3 = m ++ N := by
        obtain ⟨N, rfl⟩ := hmN
        exact ⟨N ++ N3, by rw [hN3, List.append_assoc]⟩
      have ia3 : Ints M3 av A := by rw [hN3]; exact ia2.old N3
      have ib3 : Ints M3 bv B := by rw [hN3]; exact ib2.old N3
      clear hI v1 v2 v3 hbox hl2 hr2 ia2 ib2 hN3
      rw [hceq, hl', hr'] at hT
      obtain ⟨b, o, t5, t6, u7⟩ := id hT
      obtain ⟨aa, ao, a1, a2, a3⟩ := id ia3
      obtain ⟨ba, bo, b1, b2, b3⟩ := id ib3
      rw [List.append_nil]
      (repeat (first | (with_reducible refine AWo.cons ?_) | ((with_reducible refine Step.id ?_); first | ((with_reducible apply Step.move); exact rfl; exact rfl) | ((with_reducible apply Step.len); exact rfl; (focus (assumption)); (focus (decide +kernel)); exact rfl)) | (with_reducible refine AWo.nil ?_) | ((with_reducible apply Then.n)) | ((with_reducible apply AW.block))))
      refine AW.rebase ?_
      refine AW.loopT (fun rk t L' => ∃ i : Nat, rk = l - i ∧ i ≤ l ∧ (∀ i', i' < i → ∀ j, j < r → 0 ≤ c i' j → 1000000000 - c i' j ≤ A.getD i' 0 + B.getD j 0) ∧ L' = [] ∧ t = [(3, av), (4, bv), (13, .int .i64 W.sum), (60, tv), (61, .int .i64 (l : Nat)), (62, .int .i64 (i : Nat))])
        ⟨_, _, _, (Or.inl ⟨rfl, (by repeat (first | exact trivial | (refine And.intro rfl ?_)))⟩), 0, rfl, Nat.zero_le _, fun _ h => by omega, rfl, rfl⟩ ?_
      rintro rk t L' ⟨i, rfl, hi, hq, rfl, rfl⟩
      rcases Nat.lt_or_ge i l with hil | hig
      · obtain ⟨w, w1, wa, wo', w2, w3, w4⟩ := u7 i hil
        rw [tab_len] at w2 w4
        have ra := a3 i (by omega)
        have hpa := hp (A.getD i 0) (by rw [← hW]; exact List.mem_append_left _ (by simp [show i < A.length by omega]))
        (repeat (first | (with_reducible refine AWo.cons ?_) | ((with_reducible refine Step.id ?_); first | ((with_reducible apply Step.move); exact rfl; exact rfl) | ((with_reducible apply Step.assign); exact rfl; exact rfl) | ((with_reducible apply Step.load); exact rfl; (focus (decide +kernel)); exact rfl; (focus (exact w1.old _))) | ((with_reducible apply Step.ix1); exact rfl; (focus (assumption)); exact rfl; (focus (decide +kernel)); exact rfl; (focus (omega))) | ((with_reducible apply Step.lss); exact rfl; exact rfl; exact rfl) | ((with_reducible apply Step.len); exact rfl; (focus (assumption)); (focus (decide +kernel)); exact rfl)) | (with_reducible refine AWo.nil ?_) | ((with_reducible apply AW.seq)) | ((with_reducible apply Then.n)) | ((with_reducible apply AW.regL)) | ((with_reducible apply AW.block)) | ((with_reducible apply AW.skip)) | ((with_reducible apply AW.condT); exact rfl; (focus ((simp only [decide_eq_true_eq, decide_eq_false_iff_not, Bool.not_eq_true', Bool.not_eq_false', Bool.not_true, Bool.not_false]; first | assumption | omega))))))
        refine AW.loopT (fun rk t L' => ∃ j : Nat, rk = r - j ∧ j ≤ r ∧ (∀ j', j' < j → 0 ≤ c i j' → 1000000000 - c i j' ≤ A.getD i 0 + B.getD j' 0) ∧ L' = [] ∧ t = [(3, av), (4, bv), (13, .int .i64 W.sum), (60, tv), (61, .int .i64 (l : Nat)), (62, .int .i64 (i : Nat)), (16, .int .i64 (i : Nat)), (67, w), (68, .int .i64 (r : Nat)), (69, .int .i64 (j : Nat))])
          ⟨_, _, _, (Or.inl ⟨rfl, (by repeat (first | exact trivial | (refine And.intro rfl ?_)))⟩), 0, rfl, Nat.zero_le _, fun _ h => by omega, rfl, rfl⟩ ?_
        rintro rk t L' ⟨j, rfl, hj, hqj, rfl, rfl⟩
        rcases Nat.lt_or_ge j r with hjr | hjg
        · have w5 := w4 j hjr
          rw [tab_get (c i) hjr] at w5
          have hcb := hcs i j
          have rb := b3 j (by omega)
          have hpb := hp (B.getD j 0) (by rw [← hW]; exact List.mem_append_right _ (by simp [show j < B.length by omega]))
          have hqs : (0 ≤ c i j → 1000000000 - c i j ≤ A.getD i 0 + B.getD j 0) → ∀ j', j' < j + 1 → 0 ≤ c i j' → 1000000000 - c i j' ≤ A.getD i 0 + B.getD j' 0 := fun h j' hj' h0 => by
            by_cases e : j' = j
            · subst e; exact h h0
            · exact hqj j' (by omega) h0
          have hbad : ¬ (0 ≤ c i j → 1000000000 - c i j ≤ A.getD i 0 + B.getD j 0) → ¬ coOk c l r A B := fun h hc => h (hc i hil j hjr)
          generalize A.getD i 0 = x at *
          generalize B.getD j 0 = y at *
          by_cases hcn : 0 ≤ c i j
          · by_cases hlt : x + y < 1000000000 - c i j
            · rw [if_neg (hbad fun h => by have := h hcn; omega)] at hw
              injection hw with e1 e2
              injection e2 with e2 e3
              subst e1 e2 e3
              (repeat (first | (with_reducible refine AWo.cons ?_) | ((with_reducible refine Step.id ?_); first | ((with_reducible apply Step.gdT); exact rfl; exact rfl; (focus ((simp only [decide_eq_true_eq, decide_eq_false_iff_not, Bool.not_eq_true', Bool.not_eq_false', Bool.not_true, Bool.not_false]; first | assumption | omega)))) | ((with_reducible apply Step.move); exact rfl; exact rfl) | ((with_reducible apply Step.assign); exact rfl; exact rfl) | ((with_reducible apply Step.load); exact rfl; (focus (decide +kernel)); exact rfl; (focus (first | exact w5.old _ | exact ra.old _ | exact rb.old _))) | ((with_reducible apply Step.ix1); exact rfl; (focus (assumption)); exact rfl; (focus (decide +kernel)); exact rfl; (focus (omega))) | ((with_reducible apply Step.add); exact rfl; exact rfl; (focus (omega)); exact rfl) | ((with_reducible apply Step.sub); exact rfl; exact rfl; (focus (omega)); exact rfl) | ((with_reducible apply Step.lss); exact rfl; exact rfl; exact rfl) | ((with_reducible apply Step.geq); exact rfl; exact rfl; exact rfl) | ((with_reducible apply Step.pickT); exact rfl; exact rfl; exact rfl; exact rfl; (focus ((simp only [decide_eq_true_eq, decide_eq_false_iff_not, Bool.not_eq_true', Bool.not_eq_false', Bool.not_true, Bool.not_false]; first | assumption | omega))))) | (with_reducible refine AWo.nil ?_) | ((with_reducible apply AW.seq)) | ((with_reducible apply Then.n)) | ((with_reducible apply AW.regL)) | ((with_reducible apply AW.block)) | ((with_reducible apply AW.drawL fit); (focus (decide +kernel))) | ((with_reducible apply AW.skip)) | ((with_reducible apply AW.condT); exact rfl; (focus ((simp only [decide_eq_true_eq, decide_eq_false_iff_not, Bool.not_eq_true', Bool.not_eq_false', Bool.not_true, Bool.not_false]; first | assumption | omega))))))
              (refine AW.ret ?_; (repeat (first | refine Then.r ?_ | refine InBlk.r ?_)))
              obtain ⟨N, rfl⟩ := hmN
              exact ⟨_, rfl, rfl, N, by rw [List.append_nil]⟩
            · (repeat (first | (with_reducible refine AWo.cons ?_) | ((with_reducible refine Step.id ?_); first | ((with_reducible apply Step.gdT); exact rfl; exact rfl; (focus ((simp only [decide_eq_true_eq, decide_eq_false_iff_not, Bool.not_eq_true', Bool.not_eq_false', Bool.not_true, Bool.not_false]; first | assumption | omega)))) | ((with_reducible apply Step.move); exact rfl; exact rfl) | ((with_reducible apply Step.assign); exact rfl; exact rfl) | ((with_reducible apply Step.load); exact rfl; (focus (decide +kernel)); exact rfl; (focus (first | exact w5.old _ | exact ra.old _ | exact rb.old _))) | ((with_reducible apply Step.ix1); exact rfl; (focus (assumption)); exact rfl; (focus (decide +kernel)); exact rfl; (focus (omega))) | ((with_reducible apply Step.add); exact rfl; exact rfl; (focus (omega)); exact rfl) | ((with_reducible apply Step.sub); exact rfl; exact rfl; (focus (omega)); exact rfl) | ((with_reducible apply Step.lss); exact rfl; exact rfl; exact rfl) | ((with_reducible apply Step.geq); exact rfl; exact rfl; exact rfl) | ((with_reducible apply Step.pickT); exact rfl; exact rfl; exact rfl; exact rfl; (focus ((simp only [decide_eq_true_eq, decide_eq_false_iff_not, Bool.not_eq_true', Bool.not_eq_false', Bool.not_true, Bool.not_false]; first | assumption | omega))))) | (with_reducible refine AWo.nil ?_) | ((with_reducible apply AW.seq)) | ((with_reducible apply Then.n)) | ((with_reducible apply AW.regL)) | ((with_reducible apply AW.block)) | ((with_reducible apply AW.drawL fit); (focus (decide +kernel))) | ((with_reducible apply InBlk.n)) | ((with_reducible apply AW.skip)) | ((with_reducible apply AW.condT); exact rfl; (focus ((simp only [decide_eq_true_eq, decide_eq_false_iff_not, Bool.not_eq_true', Bool.not_eq_false', Bool.not_true, Bool.not_false]; first | assumption | omega)))) | ((with_reducible apply AW.condF); exact rfl; (focus ((simp only [decide_eq_true_eq, decide_eq_false_iff_not, Bool.not_eq_true', Bool.not_eq_false', Bool.not_true, Bool.not_false]; first | assumption | omega))))))
              exact ⟨_, _, _, by omega, (Or.inl ⟨rfl, (by repeat (first | exact trivial | (refine And.intro rfl ?_)))⟩), j + 1, rfl, by omega, hqs fun _ => by omega, rfl, rfl⟩
          · (repeat (first | (with_reducible refine AWo.cons ?_) | ((with_reducible refine Step.id ?_); first | ((with_reducible apply Step.gdF); exact rfl; exact rfl; (focus ((simp only [decide_eq_true_eq, decide_eq_false_iff_not, Bool.not_eq_true', Bool.not_eq_false', Bool.not_true, Bool.not_false]; first | assumption | omega)))) | ((with_reducible apply Step.move); exact rfl; exact rfl) | ((with_reducible apply Step.assign); exact rfl; exact rfl) | ((with_reducible apply Step.load); exact rfl; (focus (decide +kernel)); exact rfl; (focus (exact w5.old _))) | ((with_reducible apply Step.ix1); exact rfl; (focus (assumption)); exact rfl; (focus (decide +kernel)); exact rfl; (focus (omega))) | ((with_reducible apply Step.add); exact rfl; exact rfl; (focus (omega)); exact rfl) | ((with_reducible apply Step.lss); exact rfl; exact rfl; exact rfl) | ((with_reducible apply Step.geq); exact rfl; exact rfl; exact rfl) | ((with_reducible apply Step.pickF); exact rfl; exact rfl; exact rfl; exact rfl; (focus ((simp only [decide_eq_true_eq, decide_eq_false_iff_not, Bool.not_eq_true', Bool.not_eq_false', Bool.not_true, Bool.not_false]; first | assumption | omega))))) | (with_reducible refine AWo.nil ?_) | ((with_reducible apply AW.seq)) | ((with_reducible apply Then.n)) | ((with_reducible apply AW.regL)) | ((with_reducible apply AW.block)) | ((with_reducible apply AW.drawL fit); (focus (decide +kernel))) | ((with_reducible apply InBlk.n)) | ((with_reducible apply AW.skip)) | ((with_reducible apply AW.condT); exact rfl; (focus ((simp only [decide_eq_true_eq, decide_eq_false_iff_not, Bool.not_eq_true', Bool.not_eq_false', Bool.not_true, Bool.not_false]; first | assumption | omega)))) | ((with_reducible apply AW.condF); exact rfl; (focus (rfl)))))
            exact ⟨_, _, _, by omega, (Or.inl ⟨rfl, (by repeat (first | exact trivial | (refine And.intro rfl ?_)))⟩), j + 1, rfl, by omega, hqs fun h => absurd h hcn, rfl, rfl⟩
        · have hjr : j = r := by omega
          subst j
          (repeat (first | (with_reducible refine AWo.cons ?_) | ((with_reducible refine Step.id ?_); first | ((with_reducible apply Step.move); exact rfl; exact rfl) | ((with_reducible apply Step.add); exact rfl; exact rfl; (focus (omega)); exact rfl) | ((with_reducible apply Step.lss); exact rfl; exact rfl; exact rfl)) | (with_reducible refine AWo.nil ?_) | ((with_reducible apply AW.seq)) | ((with_reducible apply Then.n)) | ((with_reducible apply AW.regL)) | ((with_reducible apply AW.exit)) | ((with_reducible apply InBlk.n)) | ((with_reducible apply InBlk.hit)) | ((with_reducible apply Then.e)) | ((with_reducible apply AW.condF); exact rfl; (focus ((simp only [decide_eq_true_eq, decide_eq_false_iff_not, Bool.not_eq_true', Bool.not_eq_false', Bool.not_true, Bool.not_false]; first | assumption | omega))))))
          refine ⟨_, _, _, by omega, (Or.inl ⟨rfl, (by repeat (first | exact trivial | (refine And.intro rfl ?_)))⟩), i + 1, rfl, by omega, fun i' hi' j' hj' h0 => ?_, rfl, rfl⟩
          by_cases e : i' = i
          · subst e; exact hqj j' hj' h0
          · exact hq i' (by omega) j' hj' h0
      · have hil : i = l := by omega
        subst i
        rw [if_pos (show coOk c l r A B from hq)] at hw
        injection hw with e1 e2
        injection e2 with e2 e3
        subst e1 e2 e3
        (repeat (first | (with_reducible refine AWo.cons ?_) | ((with_reducible refine Step.id ?_); first | ((with_reducible apply Step.move); exact rfl; exact rfl) | ((with_reducible apply Step.assign); exact rfl; exact rfl) | ((with_reducible apply Step.lss); exact rfl; exact rfl; exact rfl)) | (with_reducible refine AWo.nil ?_) | ((with_reducible apply AW.seq)) | ((with_reducible apply Then.n)) | ((with_reducible apply AW.regL)) | ((with_reducible apply AW.exit)) | ((with_reducible apply InBlk.hit)) | ((with_reducible apply Then.e)) | ((with_reducible apply AW.condF); exact rfl; (focus ((simp only [decide_eq_true_eq, decide_eq_false_iff_not, Bool.not_eq_true', Bool.not_eq_false', Bool.not_true, Bool.not_false]; first | assumption | omega))))))
        (refine AW.ret ?_; (repeat (first | refine Then.r ?_ | refine InBlk.r ?_)))
        obtain ⟨N, rfl⟩ := hmN
        exact ⟨_, rfl, rfl, N, by rw [List.append_nil]⟩
    · rw [if_neg (fun h => hlb h.2)] at hw
      injection hw with e1 e2
      injection e2 with e2 e3
      subst e1 e2 e3
      (repeat (first | (with_reducible refine AWo.cons ?_) | ((with_reducible refine Step.id ?_); first | ((with_reducible apply Step.gdT); exact rfl; exact rfl; (focus ((simp only [decide_eq_true_eq, decide_eq_false_iff_not, Bool.not_eq_true', Bool.not_eq_false', Bool.not_true, Bool.not_false]; first | assumption | omega)))) | ((with_reducible apply Step.move); exact rfl; exact rfl) | ((with_reducible apply Step.assign); exact rfl; exact rfl) | ((with_reducible apply Step.loadL (n := 8)); exact rfl; (focus (decide +kernel)); (focus (decide +kernel)); exact rfl; (focus (exact RdL.new rfl rfl)); exact rfl; exact rfl) | ((with_reducible apply Step.neq); exact rfl; exact rfl; exact rfl) | ((with_reducible apply Step.len); exact rfl; (focus (assumption)); (focus (decide +kernel)); exact rfl) | ((with_reducible apply Step.not); exact rfl; exact rfl) | ((with_reducible apply Step.pickF); exact rfl; exact rfl; exact rfl; exact rfl; (focus ((simp only [decide_eq_true_eq, decide_eq_false_iff_not, Bool.not_eq_true', Bool.not_eq_false', Bool.not_true, Bool.not_false]; first | assumption | omega)))) | ((with_reducible apply Step.callR fit); exact rfl; exact Try.func26; exact rfl; exact rfl; exact (w2 _)) | ((with_reducible apply Step.box 0); exact rfl; exact rfl; (focus (kernel_rfl)); exact rfl; (focus (first | (simp only [List.nil_append, List.cons_append, List.set_cons_zero, List.set_cons_succ, iv_set, bv_set, iv_rep, bv_rep]; done) | (simp only [List.nil_append, List.cons_append, List.set_cons_zero, List.set_cons_succ, iv_set, bv_set, iv_rep, bv_rep]; rfl) | rfl)))) | (with_reducible refine AWo.nil ?_) | ((with_reducible apply AW.seq)) | ((with_reducible apply Then.n)) | ((with_reducible apply AW.regL)) | ((with_reducible apply AW.skip)) | ((with_reducible apply AW.condT); exact rfl; (focus ((simp only [decide_eq_true_eq, decide_eq_false_iff_not, Bool.not_eq_true', Bool.not_eq_false', Bool.not_true, Bool.not_false]; first | assumption | omega)))) | ((with_reducible apply AW.condF); exact rfl; (focus (rfl)))))
      (refine AW.ret ?_; (repeat (first | refine Then.r ?_ | refine InBlk.r ?_)))
      exact ⟨_, rfl, rfl, _, rfl⟩
  · rw [if_neg (fun h => hla h.1)] at hw
    injection hw with e1 e2
    injection e2 with e2 e3
    subst e1 e2 e3
    (repeat (first | (with_reducible refine AWo.cons ?_) | ((with_reducible refine Step.id ?_); first | ((with_reducible apply Step.gdF); exact rfl; exact rfl; (focus ((simp only [decide_eq_true_eq, decide_eq_false_iff_not, Bool.not_eq_true', Bool.not_eq_false', Bool.not_true, Bool.not_false]; first | assumption | omega)))) | ((with_reducible apply Step.move); exact rfl; exact rfl) | ((with_reducible apply Step.assign); exact rfl; exact rfl) | ((with_reducible apply Step.loadL (n := 8)); exact rfl; (focus (decide +kernel)); (focus (decide +kernel)); exact rfl; (focus (exact RdL.new rfl rfl)); exact rfl; exact rfl) | ((with_reducible apply Step.neq); exact rfl; exact rfl; exact rfl) | ((with_reducible apply Step.len); exact rfl; (focus (assumption)); (focus (decide +kernel)); exact rfl) | ((with_reducible apply Step.not); exact rfl; exact rfl) | ((with_reducible apply Step.pickT); exact rfl; exact rfl; exact rfl; exact rfl; (focus ((simp only [decide_eq_true_eq, decide_eq_false_iff_not, Bool.not_eq_true', Bool.not_eq_false', Bool.not_true, Bool.not_false]; first | assumption | omega)))) | ((with_reducible apply Step.callR fit); exact rfl; exact Try.func26; exact rfl; exact rfl; exact (w2 _)) | ((with_reducible apply Step.box 0); exact rfl; exact rfl; (focus (kernel_rfl)); exact rfl; (focus (first | (simp only [List.nil_append, List.cons_append, List.set_cons_zero, List.set_cons_succ, iv_set, bv_set, iv_rep, bv_rep]; done) | (simp only [List.nil_append, List.cons_append, List.set_cons_zero, List.set_cons_succ, iv_set, bv_set, iv_rep, bv_rep]; rfl) | rfl)))) | (with_reducible refine AWo.nil ?_) | ((with_reducible apply AW.seq)) | ((with_reducible apply Then.n)) | ((with_reducible apply AW.regL)) | ((with_reducible apply AW.skip)) | ((with_reducible apply AW.condT); exact rfl; (focus (rfl))) | ((with_reducible apply AW.condF); exact rfl; (focus (rfl)))))
    (refine AW.ret ?_; (repeat (first | refine Then.r ?_ | refine InBlk.r ?_)))
    exact ⟨_, rfl, rfl, _, rfl⟩
end Go.Proofs.Ytajpngnphbdnnaa.Abs
namespace Go.Proofs.Ytajpngnphbdnnaa.Abs
set_option linter.unusedSimpArgs false
set_option linter.unusedVariables false
open Go.RowKit
open Go.Proofs.Ytajpngnphbdnnaa.Sim
open Go.Proofs
open Hung
theorem tab_sum (f : Nat → Int) : ∀ n, (tab f n).sum = sN f n
  | 0 => by simp [tab, sN]
  | n + 1 => by rw [tab_snoc, List.sum_append, tab_sum f n, sN]; simp
theorem range_getD {i n : Nat} (h : i < n) : (List.range n).getD i 0 = i := by simp [h]
/-- The prices that prove a pairing are accepted. -/
theorem wrt_best {c : Nat → Nat → Int} {l r : Nat} {a b : Nat → Int} {best : Int} (h : Best (fun i q => wo c ((List.range l).getD i 0) ((List.range r).getD q 0)) (List.range l).length (List.range r).length a b best) :
    wrt c l r (tab a l) (tab b r) = (mx (wo c) (List.range l) (List.range r), true, 0) := by
  have hb := h.mx List.nodup_range List.nodup_range
  obtain ⟨⟨na, nb, fe⟩, su, _, ba, bb⟩ := h
  simp only [List.length_range] at na nb fe su ba bb
  unfold wrt
  rw [if_pos ⟨tab_len _ _, tab_len _ _⟩, if_pos, if_pos]
  · rw [List.sum_append, tab_sum, tab_sum, su, hb]
  · intro i hi j hj h0
    rw [tab_get a hi, tab_get b hj]
    have := fe i j hi hj
    rw [range_getD hi, range_getD hj] at this
    unfold wo at this
    rw [if_neg (by omega)] at this
    exact this
  · intro x hx
    rcases List.mem_append.1 hx with hx | hx
    · simp only [tab, List.mem_map, List.mem_range] at hx
      obtain ⟨i, hi, rfl⟩ := hx
      exact ⟨na i hi, ba i hi⟩
    · simp only [tab, List.mem_map, List.mem_range] at hx
      obtain ⟨i, hi, rfl⟩ := hx
      exact ⟨nb i hi, bb i hi⟩
set_option maxRecDepth 100000 in
theorem Prices_no {m : AM} {lv rv : Value} {u : Ru} {L R : List Gl} (hl : Gls m lv L) (hr : Gls m rv R) (h1 : L.length ≤ 100000) (h2 : R.length ≤ 100000) (hn : (sB L && sB R && uB u) = false) : ACall Try.prog 42 #[lv, rv, u.v] m (Ret (.tuple #[.slice none 0 0, .slice none 0 0, .int .i64 2]) m) := by
  have r0 : ∀ T : AM, RdL (m ++ (some { cells := u.cells } :: T)) (m.length + 0) 0 u.cells := fun T => RdL.new rfl rfl
  have hc := fun T => costs_no (hl.old T) (hr.old T) h1 h2 hn
  refine ACall.start Try.func42 rfl rfl ?_
  (repeat (first | (with_reducible refine AWo.cons ?_) | ((with_reducible refine Step.id ?_); first | ((with_reducible apply Step.move); exact rfl; exact rfl) | ((with_reducible apply Step.assign); exact rfl; exact rfl) | ((with_reducible apply Step.loadL (n := 8)); exact rfl; (focus (decide +kernel)); (focus (decide +kernel)); exact rfl; (focus (exact RdL.new rfl rfl)); exact rfl; exact rfl) | ((with_reducible apply Step.ptrNil); exact rfl; exact rfl; exact un77; exact rfl) | ((with_reducible apply Step.callR fit); exact rfl; exact Try.func54; exact rfl; exact rfl; exact (hc _)) | ((with_reducible apply Step.box 0); exact rfl; exact rfl; (focus (kernel_rfl)); exact rfl; (focus (first | (simp only [List.nil_append, List.cons_append, List.set_cons_zero, List.set_cons_succ, iv_set, bv_set, iv_rep, bv_rep]; done) | (simp only [List.nil_append, List.cons_append, List.set_cons_zero, List.set_cons_succ, iv_set, bv_set, iv_rep, bv_rep]; rfl) | rfl)))) | (with_reducible refine AWo.nil ?_) | ((with_reducible apply AW.seq)) | ((with_reducible apply Then.n)) | ((with_reducible apply AW.regL)) | ((with_reducible apply AW.condT); exact rfl; (focus (rfl)))))
  (refine AW.retD (l := [(6, _), (7, _), (8, _)]) (by repeat (first | exact trivial | (refine And.intro ⟨rfl, by (first | exact .int _ _ | exact Ren.of_g0 rfl)⟩ ?_))) ?_; (repeat (first | refine Then.r ?_ | refine InBlk.r ?_)))
  exact ⟨_, rfl, rfl, rfl⟩
set_option maxHeartbeats 4000000 in
set_option maxRecDepth 100000 in
theorem Prices_ok {m : AM} {lv rv : Value} {u : Ru} {L R : List Gl} (hl : Gls m lv L) (hr : Gls m rv R) (hL : sB L = true) (hR : sB R = true) (hu : uB u = true) :
    ACall Try.prog 42 #[lv, rv, u.v] m (More (fun M v => ∃ va vb A B, v = .tuple #[va, vb, .int .i64 0] ∧ Ints M va A ∧ Ints M vb B ∧ A.length = L.length ∧ B.length = R.length ∧ wrt (cT u L R) L.length R.length A B = (mx (wo (cT u L R)) (List.range L.length) (List.range R.length), true, 0)) m) := by
  have h1 : L.length ≤ 32 ∧ L.all gB = true := by simpa [sB] using hL
  have h2 : R.length ≤ 32 ∧ R.all gB = true := by simpa [sB] using hR
  have r0 : ∀ T : AM, RdL (m ++ (some { cells := u.cells } :: T)) (m.length + 0) 0 u.cells := fun T => RdL.new rfl rfl
  have hcs := cT_cs hu hL hR
  refine ACall.start Try.func42 rfl rfl ?_
  (repeat (first | (with_reducible refine AWo.cons ?_) | ((with_reducible refine Step.id ?_); first | ((with_reducible apply Step.move); exact rfl; exact rfl) | ((with_reducible apply Step.assign); exact rfl; exact rfl) | ((with_reducible apply Step.loadL (n := 8)); exact rfl; (focus (decide +kernel)); (focus (decide +kernel)); exact rfl; (focus (exact RdL.new rfl rfl)); exact rfl; exact rfl) | ((with_reducible apply Step.box 0); exact rfl; exact rfl; (focus (kernel_rfl)); exact rfl; (focus (first | (simp only [List.nil_append, List.cons_append, List.set_cons_zero, List.set_cons_succ, iv_set, bv_set, iv_rep, bv_rep]; done) | (simp only [List.nil_append, List.cons_append, List.set_cons_zero, List.set_cons_succ, iv_set, bv_set, iv_rep, bv_rep]; rfl) | rfl)))) | (with_reducible refine AWo.nil ?_) | ((with_reducible apply AW.seq)) | ((with_reducible apply Then.n)) | ((with_reducible apply AW.regL))))
  ((with_reducible apply Step.callX fit); exact rfl; exact Try.func54; exact rfl; exact rfl; exact (costs_ok (hl.old _) (hr.old _) hL hR hu))
  intro tv M hM hT
  obtain ⟨N0, hN0⟩ := hM
  have hMN : ∃ N, M = m ++ N := ⟨_, by rw [hN0, List.append_assoc]⟩
  clear r0 hN0
  generalize cT u L R = c at *
  obtain ⟨a, cv, b, o, htv, t1, t2, t3, t4, t5, t6, t7⟩ := id hT
  generalize hl' : L.length = l at *
  generalize hr' : R.length = r at *
  subst htv
  (repeat (first | (with_reducible refine AWo.cons ?_) | ((with_reducible refine Step.id ?_); first | ((with_reducible apply Step.move); exact rfl; exact rfl) | ((with_reducible apply Step.assign); exact rfl; exact rfl) | ((with_reducible apply Step.ptrNot); exact rfl; exact rfl; exact un77; exact rfl)) | (with_reducible refine AWo.nil ?_) | ((fail_if_success (with_reducible refine AW.atR (id := 4) ?_)); ((with_reducible apply AW.seq))) | ((with_reducible apply Then.n)) | ((with_reducible apply AW.regL)) | ((with_reducible apply AW.skip)) | ((with_reducible apply AW.condF); exact rfl; (focus (rfl)))))
  rw [List.append_nil]
  refine AW.rebase ?_
  have wt : Low M.length (.pointer (some ⟨a, 0, none⟩)) := .ptr t1
  refine AW.seq ?_
  refine AW.join (fun t M1 => ∃ (N : AM) (va vb : Value) (pa pb : Nat → Int) (best : Int), M1 = M ++ N ∧ Best (fun i q => wo c ((List.range l).getD i 0) ((List.range r).getD q 0)) (List.range l).length (List.range r).length pa pb best ∧ Ints M1 va (tab pa l) ∧ Ints M1 vb (tab pb r) ∧ All (fun i v => t i = some v) [(11, va), (12, vb)]) ?_ ?_
  · (repeat' (first | ((with_reducible refine Step.id ?_); first | ((with_reducible apply Step.move); exact rfl; exact rfl) | ((with_reducible apply Step.load); exact rfl; (focus (decide +kernel)); exact rfl; (focus (first | exact t3.old _ | exact t4.old _))) | ((with_reducible apply Step.field (k := 1)); exact rfl; (focus (decide +kernel)); exact rfl) | ((with_reducible apply Step.field (k := 2)); exact rfl; (focus (decide +kernel)); exact rfl) | ((with_reducible apply Step.nilp); exact rfl; exact rfl) | ((with_reducible apply Step.callN fit (k := 0)); exact rfl; exact rfl; exact Try.func55; exact rfl; exact rfl; exact (upTo_ok l (by omega)); (focus (first | (simp only [List.nil_append, List.cons_append, List.set_cons_zero, List.set_cons_succ, iv_set, bv_set, iv_rep, bv_rep]; done) | (simp only [List.nil_append, List.cons_append, List.set_cons_zero, List.set_cons_succ, iv_set, bv_set, iv_rep, bv_rep]; rfl) | rfl))) | ((with_reducible apply Step.callN fit (k := 1)); exact rfl; exact rfl; exact Try.func55; exact rfl; exact rfl; exact (upTo_ok r (by omega)); (focus (first | (simp only [List.nil_append, List.cons_append, List.set_cons_zero, List.set_cons_succ, iv_set, bv_set, iv_rep, bv_rep]; done) | (simp only [List.nil_append, List.cons_append, List.set_cons_zero, List.set_cons_succ, iv_set, bv_set, iv_rep, bv_rep]; rfl) | rfl)))) | ((with_reducible apply AW.drawT fit (T := (.step 0 (.step 1 (.step 2 (.step 3 (.step 4 (.step 6 (.step 7 (.step 8 (.both (.step 5 (.step 9 (.step 10 (.step 11 (.step 12 (.step 13 (.step 14 (.step 15 (.step 16 (.step 17 (.step 18 .done))))))))))) (.step 9 (.step 5 (.step 10 (.step 11 (.step 12 (.step 13 (.step 14 (.step 15 (.step 16 (.step 17 (.step 18 .done)))))))))))))))))))))); (focus (decide +kernel))) | ((with_reducible apply AWt.step); exact rfl) | refine AWt.both ?_ ?_))
    all_goals ((with_reducible apply Step.callX fit); exact rfl; exact Try.func56; exact rfl; exact rfl; exact (assign_ok (L := List.range l) (R := List.range r) (hT.old _) hcs (by omega) (by omega) (by first | exact ints_new (k := 0) rfl rfl _ (by simp) | exact ints_new (k := 1) rfl rfl _ (by simp)) (by first | exact ints_new (k := 0) rfl rfl _ (by simp) | exact ints_new (k := 1) rfl rfl _ (by simp)) (by simp; omega) (by simp; omega) (fun x hx => List.mem_range.1 hx) (fun x hx => List.mem_range.1 hx)))
    all_goals rintro v M1 ⟨N, hN⟩ ⟨va, vb, pa, pb, best, rfl, hbest, ia, ib⟩
    all_goals rw [List.length_range] at ia ib
    all_goals (repeat' (first | ((with_reducible refine Step.id ?_); first | ((with_reducible apply Step.move); exact rfl; exact rfl) | ((with_reducible apply Step.assign); exact rfl; exact rfl) | ((with_reducible apply Step.extract); exact rfl; exact rfl; exact rfl)) | ((with_reducible apply Then.n)) | ((with_reducible apply AWt.step); exact rfl) | ((with_reducible apply AWt.done))))
    all_goals exact ⟨_, va, vb, pa, pb, best, by rw [hN, List.append_nil, List.append_assoc], hbest, by rw [List.append_nil]; exact ia, by rw [List.append_nil]; exact ib, (by repeat (first | exact trivial | (refine And.intro rfl ?_)))⟩
  rintro t M1 ⟨N, va, vb, pa, pb, best, rfl, hbest, ia, ib, hall⟩
  refine AW.weak (fr_all hall) ?_
  clear hall
  (repeat (first | (with_reducible refine AWo.cons ?_) | ((with_reducible refine Step.id ?_); first | ((with_reducible apply Step.move); exact rfl; exact rfl) | ((with_reducible apply Step.assign); exact rfl; exact rfl)) | (with_reducible refine AWo.nil ?_) | ((with_reducible apply AW.seq)) | ((with_reducible apply Then.n)) | ((with_reducible apply AW.regL))))
  (refine AW.ret ?_; (repeat (first | refine Then.r ?_ | refine InBlk.r ?_)))
  obtain ⟨N0, rfl⟩ := hMN
  exact ⟨_, rfl, _, by rw [List.append_assoc], va, vb, _, _, rfl, ia, ib, by simp, by simp, wrt_best hbest⟩
theorem brow_rep {m L : AM} {k n : Nat} (h : L[k]? = some (some { cells := bv (List.replicate n false) })) : BRow (m ++ L) (.slice (some ⟨m.length + k, 0, none⟩) n n) (fun _ => false) n :=
  brow_new (by rw [tabB_rep] at h; exact h)
theorem hre_none (n : Nat) : hre (fun _ => false) n = List.range n := by unfold hre; simp
set_option maxHeartbeats 4000000 in
set_option maxRecDepth 100000 in
theorem Value_ok {m : AM} {lv rv : Value} {L R : List Gl} {u : Ru} (hl : Gls m lv L) (hr : Gls m rv R) (hok : okB L R u = true) :
    ACall Try.prog 43 #[lv, rv, u.v] m (Ret (.int .i64 (mx (wo (cT u L R)) (List.range L.length) (List.range R.length))) m) := by
  have r0 : ∀ T : AM, RdL (m ++ (some { cells := u.cells } :: T)) (m.length + 0) 0 u.cells := fun T => RdL.new rfl rfl
  obtain ⟨k1, k2, k3⟩ := okB_iff hok
  obtain ⟨hl32, hr32⟩ := okB_len hok
  have hcs := cT_cs k3 k1 k2
  refine ACall.drop (Ren.of_g0 rfl) ?_
  refine ACall.start Try.func43 rfl rfl ?_
  (repeat (first | (with_reducible refine AWo.cons ?_) | ((with_reducible refine Step.id ?_); first | ((with_reducible apply Step.assign); exact rfl; exact rfl) | ((with_reducible apply Step.box 0); exact rfl; exact rfl; (focus (kernel_rfl)); exact rfl; (focus (first | (simp only [List.nil_append, List.cons_append, List.set_cons_zero, List.set_cons_succ, iv_set, bv_set, iv_rep, bv_rep]; done) | (simp only [List.nil_append, List.cons_append, List.set_cons_zero, List.set_cons_succ, iv_set, bv_set, iv_rep, bv_rep]; rfl) | rfl)))) | (with_reducible refine AWo.nil ?_) | ((fail_if_success (with_reducible refine AW.atR (id := 1) ?_)); ((with_reducible apply AW.seq))) | ((with_reducible apply Then.n)) | ((with_reducible apply AW.regL))))
  obtain ⟨la, lo, l1, l2, _⟩ := id hl
  obtain ⟨ra, ro, r1, r2, _⟩ := id hr
  refine AW.seq ?_
  refine AW.join (fun t M1 => ∃ (N : AM), M1 = m ++ N ∧ All (fun i v => t i = some v) [(6, .int .i64 (mx (wo (cT u L R)) (List.range L.length) (List.range R.length)))]) ?_ ?_
  · (repeat' (first | ((with_reducible refine Step.id ?_); first | ((with_reducible apply Step.move); exact rfl; exact rfl) | ((with_reducible apply Step.loadL (n := 8)); exact rfl; (focus (decide +kernel)); (focus (decide +kernel)); exact rfl; (focus (exact RdL.new rfl rfl)); exact rfl; exact rfl) | ((with_reducible apply Step.len); exact rfl; (focus (assumption)); (focus (decide +kernel)); exact rfl) | ((with_reducible apply Step.make1 1); exact rfl; exact rfl; exact rfl; exact el88; (focus (omega)); exact rfl; (focus (first | (simp only [List.nil_append, List.cons_append, List.set_cons_zero, List.set_cons_succ, iv_set, bv_set, iv_rep, bv_rep]; done) | (simp only [List.nil_append, List.cons_append, List.set_cons_zero, List.set_cons_succ, iv_set, bv_set, iv_rep, bv_rep]; rfl) | rfl))) | ((with_reducible apply Step.make1 2); exact rfl; exact rfl; exact rfl; exact el88; (focus (omega)); exact rfl; (focus (first | (simp only [List.nil_append, List.cons_append, List.set_cons_zero, List.set_cons_succ, iv_set, bv_set, iv_rep, bv_rep]; done) | (simp only [List.nil_append, List.cons_append, List.set_cons_zero, List.set_cons_succ, iv_set, bv_set, iv_rep, bv_rep]; rfl) | rfl)))) | ((with_reducible apply AW.drawT fit (T := (.step 0 (.step 1 (.step 4 (.step 5 (.step 7 (.step 8 (.both (.step 2 (.both (.step 3 (.both (.step 6 (.step 9 (.step 10 (.step 11 .done)))) (.step 9 (.step 6 (.step 10 (.step 11 .done)))))) (.both (.step 6 (.both (.step 3 (.step 9 (.step 10 (.step 11 .done)))) (.step 9 (.step 3 (.step 10 (.step 11 .done)))))) (.step 9 (.both (.step 3 (.step 6 (.step 10 (.step 11 .done)))) (.step 6 (.step 3 (.step 10 (.step 11 .done))))))))) (.both (.step 6 (.both (.step 2 (.both (.step 3 (.step 9 (.step 10 (.step 11 .done)))) (.step 9 (.step 3 (.step 10 (.step 11 .done)))))) (.step 9 (.step 2 (.step 3 (.step 10 (.step 11 .done))))))) (.step 9 (.both (.step 2 (.both (.step 3 (.step 6 (.step 10 (.step 11 .done)))) (.step 6 (.step 3 (.step 10 (.step 11 .done)))))) (.step 6 (.step 2 (.step 3 (.step 10 (.step 11 .done))))))))))))))))); (focus (decide +kernel))) | ((with_reducible apply AWt.step); exact rfl) | refine AWt.both ?_ ?_))
    all_goals ((with_reducible apply Step.callX fit); exact rfl; exact Try.func59; exact rfl; exact rfl; exact (table_ok (hl.old _) (hr.old _) k1 k2 k3))
    all_goals rintro cv M1 ⟨N, hN⟩ hT
    all_goals have w1 := fun (v1 v2 : Value) (T : AM) (h1 : BRow (M1 ++ T) v1 (fun _ => false) L.length) (h2 : BRow (M1 ++ T) v2 (fun _ => false) R.length) => rworth_ok (hT.old T) hcs hl32 hr32 h1 h2
    all_goals rw [hre_none, hre_none] at w1
    all_goals subst hN
    all_goals (repeat' (first | ((with_reducible refine Step.id ?_); first | ((with_reducible apply Step.assign); exact rfl; exact rfl) | ((with_reducible apply Step.callR fit); exact rfl; exact Try.func60; exact rfl; exact rfl; exact (w1 _ _ _ (by first | exact brow_rep (k := 0) rfl | exact brow_rep (k := 1) rfl | exact BRow.old _ (BRow.old _ (brow_rep (k := 1) rfl)) | exact BRow.old _ (BRow.old _ (brow_rep (k := 2) rfl))) (by first | exact brow_rep (k := 0) rfl | exact brow_rep (k := 1) rfl | exact BRow.old _ (BRow.old _ (brow_rep (k := 1) rfl)) | exact BRow.old _ (BRow.old _ (brow_rep (k := 2) rfl))))) | ((with_reducible apply Step.make1 0); exact rfl; exact rfl; exact rfl; exact el88; (focus (omega)); exact rfl; (focus (first | (simp only [List.nil_append, List.cons_append, List.set_cons_zero, List.set_cons_succ, iv_set, bv_set, iv_rep, bv_rep]; done) | (simp only [List.nil_append, List.cons_append, List.set_cons_zero, List.set_cons_succ, iv_set, bv_set, iv_rep, bv_rep]; rfl) | rfl))) | ((with_reducible apply Step.make1 1); exact rfl; exact rfl; exact rfl; exact el88; (focus (omega)); exact rfl; (focus (first | (simp only [List.nil_append, List.cons_append, List.set_cons_zero, List.set_cons_succ, iv_set, bv_set, iv_rep, bv_rep]; done) | (simp only [List.nil_append, List.cons_append, List.set_cons_zero, List.set_cons_succ, iv_set, bv_set, iv_rep, bv_rep]; rfl) | rfl)))) | ((with_reducible apply Then.n)) | ((with_reducible apply AWt.step); exact rfl) | ((with_reducible apply AWt.done)) | refine AWt.both ?_ ?_))
    all_goals exact ⟨_, by repeat rw [List.append_assoc], (by repeat (first | exact trivial | (refine And.intro rfl ?_)))⟩
  rintro t M1 ⟨N, rfl, hall⟩
  refine AW.weak (fr_all hall) ?_
  clear hall
  (repeat ((with_reducible refine AWo.cons ?_)))
  (refine AW.ret ?_; (repeat (first | refine Then.r ?_ | refine InBlk.r ?_)))
  exact ⟨_, rfl, rfl, N, rfl⟩
set_option maxHeartbeats 4000000 in
set_option maxRecDepth 100000 in
theorem PairPrices_ok {m : AM} {lv rv : Value} {L R : List Gl} {u : Ru} (hl : Gls m lv L) (hr : Gls m rv R) (h1 : L.length ≤ 9223372036854775807) (h2 : R.length ≤ 9223372036854775807) :
    ACall Try.prog 12 #[lv, rv, u.v] m (Ret (.bool true) m) := by
  have r0 : ∀ T : AM, RdL (m ++ (some { cells := u.cells } :: T)) (m.length + 0) 0 u.cells := fun T => RdL.new rfl rfl
  have c1 := fun T => lside_ok (hl.old T) h1
  have c2 := fun T => lside_ok (hr.old T) h2
  have c3 := fun T => rule_ok (m := m ++ T) u
  have gl : ∀ T : AM, Gls (m ++ (some { cells := u.cells } :: gb (glC (L.take 34)) 4 :: T)) (gv (m.length + 1) (L.take 34).length) (L.take 34) := fun T => gls_new (k := 1) (by simp) rfl
  have gr : ∀ T : AM, Gls (m ++ (some { cells := u.cells } :: gb (glC (L.take 34)) 4 :: gb (glC (R.take 34)) 4 :: T)) (gv (m.length + 2) (R.take 34).length) (R.take 34) := fun T => gls_new (k := 2) (by simp) rfl
  cases hok : okB L R u with
  | false =>
    have w1 := Prices_no (u := u) (gl [gb (glC (R.take 34)) 4]) (gr []) (by simp only [List.length_take]; omega) (by simp only [List.length_take]; omega) (by rw [← hok]; exact okB34 L R u)
    have w2 := fun T => Good_ok (hl.old T) (hr.old T) h1 h2 hok
    refine ACall.start Try.func12 rfl rfl ?_
    (repeat (first | (with_reducible refine AWo.cons ?_) | ((with_reducible refine Step.id ?_); first | ((with_reducible apply Step.assign); exact rfl; exact rfl) | ((with_reducible apply Step.box 0); exact rfl; exact rfl; (focus (kernel_rfl)); exact rfl; (focus (first | (simp only [List.nil_append, List.cons_append, List.set_cons_zero, List.set_cons_succ, iv_set, bv_set, iv_rep, bv_rep]; done) | (simp only [List.nil_append, List.cons_append, List.set_cons_zero, List.set_cons_succ, iv_set, bv_set, iv_rep, bv_rep]; rfl) | rfl)))) | (with_reducible refine AWo.nil ?_) | ((fail_if_success (with_reducible refine AW.atR (id := 1) ?_)); ((with_reducible apply AW.seq))) | ((with_reducible apply Then.n)) | ((with_reducible apply AW.regL))))
    refine AW.joinS [(0, lv), (1, rv), (5, .pointer (some ⟨m.length + 0, 0, none⟩)), (7, .slice none 0 0), (8, .slice none 0 0), (9, .int .i64 2)] (m ++ [some { cells := u.cells }, gb (glC (L.take 34)) 4, gb (glC (R.take 34)) 4]) ?_ ?_
    · (repeat' (first | ((with_reducible refine Step.id ?_); first | ((with_reducible apply Step.move); exact rfl; exact rfl) | ((with_reducible apply Step.assign); exact rfl; exact rfl) | ((with_reducible apply Step.loadL (n := 8)); exact rfl; (focus (decide +kernel)); (focus (decide +kernel)); exact rfl; (focus (exact RdL.new rfl rfl)); exact rfl; exact rfl) | ((with_reducible apply Step.extract); exact rfl; exact rfl; exact rfl) | ((with_reducible apply Step.callG fit (k := 1)); exact rfl; exact rfl; exact Try.func21; exact rfl; exact rfl; exact (c1 _); (focus (first | (simp only [List.nil_append, List.cons_append, List.set_cons_zero, List.set_cons_succ, iv_set, bv_set, iv_rep, bv_rep]; done) | (simp only [List.nil_append, List.cons_append, List.set_cons_zero, List.set_cons_succ, iv_set, bv_set, iv_rep, bv_rep]; rfl) | rfl))) | ((with_reducible apply Step.callG fit (k := 2)); exact rfl; exact rfl; exact Try.func21; exact rfl; exact rfl; exact (c2 _); (focus (first | (simp only [List.nil_append, List.cons_append, List.set_cons_zero, List.set_cons_succ, iv_set, bv_set, iv_rep, bv_rep]; done) | (simp only [List.nil_append, List.cons_append, List.set_cons_zero, List.set_cons_succ, iv_set, bv_set, iv_rep, bv_rep]; rfl) | rfl))) | ((with_reducible apply Step.callR fit); exact rfl; exact Try.func22; exact rfl; exact rfl; exact (c3 _)) | ((with_reducible apply Step.callR fit); exact rfl; exact Try.func42; exact rfl; exact rfl; exact (w1))) | ((with_reducible apply Then.n)) | ((with_reducible apply AW.drawT fit (T := (.step 0 (.step 2 (.both (.step 1 (.both (.step 3 (.step 4 (.step 5 (.step 6 (.step 7 (.step 8 (.step 9 (.step 10 (.step 11 (.step 12 (.step 13 .done))))))))))) (.step 4 (.step 3 (.step 5 (.step 6 (.step 7 (.step 8 (.step 9 (.step 10 (.step 11 (.step 12 (.step 13 .done))))))))))))) (.step 4 (.step 1 (.step 3 (.step 5 (.step 6 (.step 7 (.step 8 (.step 9 (.step 10 (.step 11 (.step 12 (.step 13 .done))))))))))))))))); (focus (decide +kernel))) | ((with_reducible apply AWt.step); exact rfl) | ((with_reducible apply AWt.done)) | refine AWt.both ?_ ?_))
      all_goals exact ⟨rfl, (by repeat (first | exact trivial | (refine And.intro rfl ?_)))⟩
    (repeat (first | (with_reducible refine AWo.cons ?_) | ((with_reducible refine Step.id ?_); first | ((with_reducible apply Step.gdT); exact rfl; exact rfl; (focus (rfl))) | ((with_reducible apply Step.move); exact rfl; exact rfl) | ((with_reducible apply Step.assign); exact rfl; exact rfl) | ((with_reducible apply Step.loadL (n := 8)); exact rfl; (focus (decide +kernel)); (focus (decide +kernel)); exact rfl; (focus (exact RdL.new rfl rfl)); exact rfl; exact rfl) | ((with_reducible apply Step.add); exact rfl; exact rfl; (focus (omega)); exact rfl) | ((with_reducible apply Step.eql); exact rfl; exact rfl; exact rfl) | ((with_reducible apply Step.len); exact rfl; (focus (exact Sl.nil 0 0)); (focus (decide +kernel)); exact rfl) | ((with_reducible apply Step.not); exact rfl; exact rfl) | ((with_reducible apply Step.pickT); exact rfl; exact rfl; exact rfl; exact rfl; (focus (rfl))) | ((with_reducible apply Step.callR fit); exact rfl; exact Try.func26; exact rfl; exact rfl; exact (w2 _)) | ((with_reducible apply Step.callR fit); exact rfl; exact Try.func25; exact rfl; exact rfl; exact (awake_ok))) | (with_reducible refine AWo.nil ?_) | ((with_reducible apply AW.seq)) | ((with_reducible apply Then.n)) | ((with_reducible apply AW.regL)) | ((with_reducible apply AW.condT); exact rfl; (focus (rfl)))))
    (refine AW.retD (l := [(6, _)]) (by repeat (first | exact trivial | (refine And.intro ⟨rfl, by (exact .bool _)⟩ ?_))) ?_; (repeat (first | refine Then.r ?_ | refine InBlk.r ?_)))
    exact ⟨_, rfl, rfl, rfl⟩
  | true =>
    obtain ⟨k1, k2, k3⟩ := okB_iff hok
    obtain ⟨e34, f34⟩ := cT34 hok
    obtain ⟨k4, k5⟩ := okB_len hok
    rw [e34] at gl
    rw [e34, f34] at gr
    rw [e34] at c1
    rw [f34] at c2
    have w1 := Prices_ok (u := u) (gl [gb (glC R) 4]) (gr []) k1 k2 k3
    refine ACall.drop (Ren.of_g0 rfl) ?_
    refine ACall.start Try.func12 rfl rfl ?_
    (repeat (first | (with_reducible refine AWo.cons ?_) | ((with_reducible refine Step.id ?_); first | ((with_reducible apply Step.assign); exact rfl; exact rfl) | ((with_reducible apply Step.box 0); exact rfl; exact rfl; (focus (kernel_rfl)); exact rfl; (focus (first | (simp only [List.nil_append, List.cons_append, List.set_cons_zero, List.set_cons_succ, iv_set, bv_set, iv_rep, bv_rep]; done) | (simp only [List.nil_append, List.cons_append, List.set_cons_zero, List.set_cons_succ, iv_set, bv_set, iv_rep, bv_rep]; rfl) | rfl)))) | (with_reducible refine AWo.nil ?_) | ((fail_if_success (with_reducible refine AW.atR (id := 1) ?_)); ((with_reducible apply AW.seq))) | ((with_reducible apply Then.n)) | ((with_reducible apply AW.regL))))
    refine AW.seq ?_
    refine AW.join (fun t M1 => ∃ (N : AM) (va vb : Value) (A B : List Int), M1 = m ++ N ∧ Ints M1 va A ∧ Ints M1 vb B ∧ A.length = L.length ∧ B.length = R.length ∧ wrt (cT u L R) L.length R.length A B = (mx (wo (cT u L R)) (List.range L.length) (List.range R.length), true, 0) ∧ RdL M1 (m.length + 0) 0 u.cells ∧ All (fun i v => t i = some v) [(0, lv), (1, rv), (5, .pointer (some ⟨m.length + 0, 0, none⟩)), (7, va), (8, vb), (9, .int .i64 0)]) ?_ ?_
    · (repeat' (first | ((with_reducible refine Step.id ?_); first | ((with_reducible apply Step.move); exact rfl; exact rfl) | ((with_reducible apply Step.loadL (n := 8)); exact rfl; (focus (decide +kernel)); (focus (decide +kernel)); exact rfl; (focus (exact RdL.new rfl rfl)); exact rfl; exact rfl) | ((with_reducible apply Step.callG fit (k := 1)); exact rfl; exact rfl; exact Try.func21; exact rfl; exact rfl; exact (c1 _); (focus (first | (simp only [List.nil_append, List.cons_append, List.set_cons_zero, List.set_cons_succ, iv_set, bv_set, iv_rep, bv_rep]; done) | (simp only [List.nil_append, List.cons_append, List.set_cons_zero, List.set_cons_succ, iv_set, bv_set, iv_rep, bv_rep]; rfl) | rfl))) | ((with_reducible apply Step.callG fit (k := 2)); exact rfl; exact rfl; exact Try.func21; exact rfl; exact rfl; exact (c2 _); (focus (first | (simp only [List.nil_append, List.cons_append, List.set_cons_zero, List.set_cons_succ, iv_set, bv_set, iv_rep, bv_rep]; done) | (simp only [List.nil_append, List.cons_append, List.set_cons_zero, List.set_cons_succ, iv_set, bv_set, iv_rep, bv_rep]; rfl) | rfl))) | ((with_reducible apply Step.callR fit); exact rfl; exact Try.func22; exact rfl; exact rfl; exact (c3 _))) | ((with_reducible apply AW.drawT fit (T := (.step 0 (.step 2 (.both (.step 1 (.both (.step 3 (.step 4 (.step 5 (.step 6 (.step 7 (.step 8 (.step 9 (.step 10 (.step 11 (.step 12 (.step 13 .done))))))))))) (.step 4 (.step 3 (.step 5 (.step 6 (.step 7 (.step 8 (.step 9 (.step 10 (.step 11 (.step 12 (.step 13 .done))))))))))))) (.step 4 (.step 1 (.step 3 (.step 5 (.step 6 (.step 7 (.step 8 (.step 9 (.step 10 (.step 11 (.step 12 (.step 13 .done))))))))))))))))); (focus (decide +kernel))) | ((with_reducible apply AWt.step); exact rfl) | refine AWt.both ?_ ?_))
      all_goals ((with_reducible apply Step.callX fit); exact rfl; exact Try.func42; exact rfl; exact rfl; exact w1)
      all_goals rintro v M1 ⟨N, hN⟩ ⟨va, vb, A, B, rfl, hA, hB, lA, lB, hw⟩
      all_goals (repeat' (first | ((with_reducible refine Step.id ?_); first | ((with_reducible apply Step.move); exact rfl; exact rfl) | ((with_reducible apply Step.assign); exact rfl; exact rfl) | ((with_reducible apply Step.extract); exact rfl; exact rfl; exact rfl)) | ((with_reducible apply Then.n)) | ((with_reducible apply AWt.step); exact rfl) | ((with_reducible apply AWt.done))))
      all_goals exact ⟨_, va, vb, A, B, by rw [hN, List.append_nil, List.append_assoc], by rw [List.append_nil]; exact hA, by rw [List.append_nil]; exact hB, lA, lB, hw, by rw [hN, List.append_nil]; exact (r0 _).old N, (by repeat (first | exact trivial | (refine And.intro rfl ?_)))⟩
    rintro t M1 ⟨N, va, vb, A, B, rfl, hA, hB, lA, lB, hw, hR, hall⟩
    refine AW.weak (fr_all hall) ?_
    clear hall w1 c1 c2 c3 gl gr
    refine AW.rebase ?_
    have hl' := hl.old N
    have hr' := hr.old N
    generalize hMM : m ++ N = MM at *
    have w2 := fun T => Good_ok (hl'.old T) (hr'.old T) h1 h2 hok
    have w3 := fun T => RWorth_ok (hl'.old T) (hr'.old T) h1 h2 hok (hA.old T) (hB.old T) (by omega) (by omega) hw
    have c1 := fun T => lside_ok (hl'.old T) h1
    have c2 := fun T => lside_ok (hr'.old T) h2
    have c3 := fun T => rule_ok (m := MM ++ T) u
    rw [e34] at c1
    rw [f34] at c2
    have gl : ∀ T : AM, Gls (MM ++ (gb (glC L) 4 :: T)) (gv (MM.length + 0) L.length) L := fun T => gls_new (k := 0) (by simp) rfl
    have gr : ∀ T : AM, Gls (MM ++ (gb (glC L) 4 :: gb (glC R) 4 :: T)) (gv (MM.length + 1) R.length) R := fun T => gls_new (k := 1) (by simp) rfl
    have w4 := Worth_ok (u := u) (gl [gb (glC R) 4]) (gr []) k1 k2 k3 (hA.old _) (hB.old _) (by omega) (by omega) hw
    have w5 := fun T => Value_ok (hl'.old T) (hr'.old T) hok
    obtain ⟨V, hV⟩ : ∃ V, mx (wo (cT u L R)) (List.range L.length) (List.range R.length) = V := ⟨_, rfl⟩
    rw [hV] at w3 w4 w5
    (repeat (first | (with_reducible refine AWo.cons ?_) | ((with_reducible refine Step.id ?_); first | ((with_reducible apply Step.move); exact rfl; exact rfl) | ((with_reducible apply Step.assign); exact rfl; exact rfl) | ((with_reducible apply Step.loadL (n := 8)); exact rfl; (focus (decide +kernel)); (focus (decide +kernel)); exact rfl; (focus (exact RdL.old _ (by assumption))); exact rfl; exact rfl) | ((with_reducible apply Step.not); exact rfl; exact rfl) | ((with_reducible apply Step.extract); exact rfl; exact rfl; exact rfl) | ((with_reducible apply Step.callR fit); exact rfl; exact Try.func26; exact rfl; exact rfl; exact (w2 _)) | ((with_reducible apply Step.callR fit); exact rfl; exact Try.func38; exact rfl; exact rfl; exact (w3 _))) | (with_reducible refine AWo.nil ?_) | ((fail_if_success (with_reducible refine AW.atR (id := 5) ?_)); ((with_reducible apply AW.seq))) | ((with_reducible apply Then.n)) | ((with_reducible apply AW.regL)) | ((with_reducible apply AW.skip)) | ((with_reducible apply AW.condF); exact rfl; (focus (rfl)))))
    refine AW.joinS [(0, lv), (1, rv), (5, .pointer (some ⟨m.length + 0, 0, none⟩)), (9, .int .i64 0), (10, .int .i64 V), (11, .bool true), (12, .int .i64 0), (13, .int .i64 V), (14, .bool true), (15, .int .i64 0)] (MM ++ [gb (glC L) 4, gb (glC R) 4]) ?_ ?_
    · (repeat' (first | ((with_reducible refine Step.id ?_); first | ((with_reducible apply Step.move); exact rfl; exact rfl) | ((with_reducible apply Step.assign); exact rfl; exact rfl) | ((with_reducible apply Step.loadL (n := 8)); exact rfl; (focus (decide +kernel)); (focus (decide +kernel)); exact rfl; (focus (exact RdL.old _ (by assumption))); exact rfl; exact rfl) | ((with_reducible apply Step.extract); exact rfl; exact rfl; exact rfl) | ((with_reducible apply Step.callG fit (k := 0)); exact rfl; exact rfl; exact Try.func21; exact rfl; exact rfl; exact (c1 _); (focus (first | (simp only [List.nil_append, List.cons_append, List.set_cons_zero, List.set_cons_succ, iv_set, bv_set, iv_rep, bv_rep]; done) | (simp only [List.nil_append, List.cons_append, List.set_cons_zero, List.set_cons_succ, iv_set, bv_set, iv_rep, bv_rep]; rfl) | rfl))) | ((with_reducible apply Step.callG fit (k := 1)); exact rfl; exact rfl; exact Try.func21; exact rfl; exact rfl; exact (c2 _); (focus (first | (simp only [List.nil_append, List.cons_append, List.set_cons_zero, List.set_cons_succ, iv_set, bv_set, iv_rep, bv_rep]; done) | (simp only [List.nil_append, List.cons_append, List.set_cons_zero, List.set_cons_succ, iv_set, bv_set, iv_rep, bv_rep]; rfl) | rfl))) | ((with_reducible apply Step.callR fit); exact rfl; exact Try.func22; exact rfl; exact rfl; exact (c3 _)) | ((with_reducible apply Step.callR fit); exact rfl; exact Try.func37; exact rfl; exact rfl; exact (w4))) | ((with_reducible apply Then.n)) | ((with_reducible apply AW.drawT fit (T := (.step 0 (.step 2 (.step 6 (.step 7 (.both (.step 1 (.both (.step 3 (.step 4 (.step 5 (.step 8 (.step 9 (.step 10 (.step 11 (.step 12 (.step 13 (.step 14 (.step 15 .done))))))))))) (.step 4 (.step 3 (.step 5 (.step 8 (.step 9 (.step 10 (.step 11 (.step 12 (.step 13 (.step 14 (.step 15 .done))))))))))))) (.step 4 (.step 1 (.step 3 (.step 5 (.step 8 (.step 9 (.step 10 (.step 11 (.step 12 (.step 13 (.step 14 (.step 15 .done))))))))))))))))))); (focus (decide +kernel))) | ((with_reducible apply AWt.step); exact rfl) | ((with_reducible apply AWt.done)) | refine AWt.both ?_ ?_))
      all_goals exact ⟨rfl, (by repeat (first | exact trivial | (refine And.intro rfl ?_)))⟩
    (repeat (first | (with_reducible refine AWo.cons ?_) | ((with_reducible refine Step.id ?_); first | ((with_reducible apply Step.gdT); exact rfl; exact rfl; (focus (first | rfl | (simp; done)))) | ((with_reducible apply Step.move); exact rfl; exact rfl) | ((with_reducible apply Step.assign); exact rfl; exact rfl) | ((with_reducible apply Step.loadL (n := 8)); exact rfl; (focus (decide +kernel)); (focus (decide +kernel)); exact rfl; (focus (exact RdL.old _ (by assumption))); exact rfl; exact rfl) | ((with_reducible apply Step.eql); exact rfl; exact rfl; exact rfl) | ((with_reducible apply Step.pickT); exact rfl; exact rfl; exact rfl; exact rfl; (focus (first | rfl | (simp; done)))) | ((with_reducible apply Step.callR fit); exact rfl; exact Try.func43; exact rfl; exact rfl; exact (w5 _)) | ((with_reducible apply Step.callR fit); exact rfl; exact Try.func25; exact rfl; exact rfl; exact (awake_ok))) | (with_reducible refine AWo.nil ?_) | ((with_reducible apply AW.seq)) | ((with_reducible apply Then.n)) | ((with_reducible apply AW.regL))))
    (refine AW.ret ?_; (repeat (first | refine Then.r ?_ | refine InBlk.r ?_)))
    subst hMM
    exact ⟨_, by simp; rfl, rfl, _, by rw [List.append_assoc]⟩
end Go.Proofs.Ytajpngnphbdnnaa.Abs
namespace Go.Proofs.Ytajpngnphbdnnaa.Abs
set_option linter.unusedSimpArgs false
set_option linter.unusedVariables false
open Go.RowKit
open Go.Proofs.Ytajpngnphbdnnaa.Sim
open Go.Proofs
theorem gls_args {F : Nat → List Int} (hF : ∀ k, (F k).length = 4) (n : Nat) : ∃ l : List Gl, l.length = n ∧ ∀ {M : AM} {v : Value} {i : Nat}, (Sl v i 0 n ∧ i < M.length ∧ ∀ k, k < n → RdL M i (0 + k * 4) (iv (F k))) → Gls M v l := by
  obtain ⟨g, hg⟩ := Classical.axiomOfChoice fun k => gl_of (hF k)
  refine ⟨(List.range n).map g, by simp, fun {M v i} h => ⟨i, 0, by simpa using h.1, h.2.1, fun k hk => ?_⟩⟩
  have hk' : k < n := by simpa using hk
  have := h.2.2 k hk'
  rw [hg k] at this
  have e : ((List.range n).map g).getD k default = g k := by simp [hk']
  rw [e]
  exact this
end Go.Proofs.Ytajpngnphbdnnaa.Abs
