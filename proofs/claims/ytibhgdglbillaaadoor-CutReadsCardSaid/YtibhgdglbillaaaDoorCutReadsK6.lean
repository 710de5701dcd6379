/- Proved here: what the proof of CutReads rests on, part 6 of 6. Conditions: those that each theorem names. -/
import Derived.Test.YtibhgdglbillaaaDoorCutReadsK5
namespace Go.Proofs.YtibhgdglbillaaaDoor.Abs
set_option linter.unusedSimpArgs false
set_option linter.unusedVariables false
open Go.RowKit
open Go.Proofs.YtibhgdglbillaaaDoor.Sim
open Go.Proofs
theorem pre_up {m M M' : AM} (h : ∃ N, M = m ++ N) (h' : ∃ N, M' = M ++ N) : ∃ N, M' = m ++ N := by
  obtain ⟨N, rfl⟩ := h
  obtain ⟨N', rfl⟩ := h'
  exact ⟨_, List.append_assoc _ _ _⟩
theorem rdg_take (B : Brd) (K : List Kd) (ps : List Nd) : rdgM B (K.take 14) ps = rdgM B K ps ∧ worthL (K.take 14) (rdgM B K ps).1 = worthL K (rdgM B K ps).1 ∧ cntM (K.take 14).length (rdgM B K ps) = cntM K.length (rdgM B K ps) := by
  cases hg : goodB B K with
  | true =>
    rw [good_len hg]
    exact ⟨rfl, rfl, rfl⟩
  | false =>
    have e : ∀ K', goodB B K' = false → rdgM B K' ps = ([], 2) := fun K' h => by unfold rdgM; rw [if_neg (by simp [h])]
    rw [e _ hg, e _ (by rw [good_take]; exact hg)]
    exact ⟨rfl, rfl, rfl⟩
theorem cntM_len (B : Brd) (K : List Kd) (ps : List Nd) : (cntM K.length (rdgM B K ps)).length ≤ 100000 := by
  unfold cntM
  split
  · rename_i h
    have := good_kl (rdg_good h)
    rw [cntT_len]
    omega
  · simp
theorem rstM_len (B : Brd) (K : List Kd) (ps : List Nd) : (rstM B (rdgM B K ps)).length ≤ 100000 := by
  unfold rstM
  split
  · rename_i h
    have hg := rdg_good h
    have hgb : boardB B = true := by simp only [goodB, Bool.and_eq_true] at hg; exact hg.1
    have hin := good_in hgb
    have := (punchT_board hgb (rdgM B K ps).1 (rdgM B K ps).1.length).2.2
    unfold bh at this
    have h2 : B.length ≤ 16 := hin.2.1
    omega
  · simp
set_option maxHeartbeats 8000000 in
set_option maxRecDepth 100000 in
theorem RCounts_ok {m : AM} {sv kv v : Value} {B : Brd} {K : List Kd} {ps : List Nd} (hs : Strs m sv B) (hk : Kds m kv K) (hv : PN m v ps) (hlen : ps.length ≤ 1000000) :
    ACall Tryd.prog 48 #[sv, kv, v] m (More (fun M w => ∃ u, w = .tuple #[u, .int .i64 (rdgM B K ps).2] ∧ Ints M u (cntM K.length (rdgM B K ps))) m) := by
  have hR := RRead_ok hs hk hv hlen
  have hM : 0 < m.length := by obtain ⟨A1, O1, sl1, la1, rd1⟩ := hs; omega
  obtain ⟨hl1, hl2, hl3⟩ := rdgM_all (B := B) (K := K) (ps := ps)
  have hgd := rdg_good (B := B) (K := K) (ps := ps)
  generalize rdgM B K ps = x at *
  obtain ⟨l, e⟩ := x
  simp only at hR hl1 hl2 hl3 hgd ⊢
  obtain ⟨A2, O2, sl2, la2, rd2⟩ := id hk
  obtain ⟨q2, c2, rfl⟩ := sl2.shape
  refine ACall.start Tryd.func48 rfl rfl ?_
  (repeat (first | (with_reducible refine AWo.cons ?_) | ((with_reducible refine Step.id ?_); first | ((with_reducible apply Step.move); exact rfl; exact rfl) | ((with_reducible apply Step.assign); exact rfl; exact rfl)) | (with_reducible refine AWo.nil ?_) | ((with_reducible apply AW.seq)) | ((with_reducible apply Then.n)) | ((with_reducible apply AW.regL))))
  rw [List.append_nil]
  ((with_reducible apply Step.callX fit); exact rfl; exact Tryd.func46; exact rfl; exact rfl; exact hR)
  rintro _ M1 ⟨N1, hN1⟩ ⟨u, rfl, hpc⟩
  clear hR
  rw [List.append_nil]
  by_cases he : e = 0
  · subst he
    have hkl := good_kl (hgd rfl)
    have la3 : A2 < M1.length := by rw [hN1, List.length_append]; omega
    (repeat (first | (with_reducible refine AWo.cons ?_) | ((with_reducible refine Step.id ?_); first | ((with_reducible apply Step.move); exact rfl; exact rfl) | ((with_reducible apply Step.assign); exact rfl; exact rfl) | ((with_reducible apply Step.neq); exact rfl; exact rfl; exact rfl) | ((with_reducible apply Step.extract); exact rfl; exact rfl; exact rfl)) | (with_reducible refine AWo.nil ?_) | ((fail_if_success (with_reducible refine AW.atR (id := 4) ?_)); ((with_reducible apply AW.seq))) | ((with_reducible apply Then.n)) | ((with_reducible apply AW.regL)) | ((with_reducible apply AW.skip)) | ((with_reducible apply AW.condF); exact rfl; (focus (rfl)))))
    refine AW.rebase ?_
    obtain ⟨A4, O4, sl4, la4, rd4⟩ := id hpc
    obtain ⟨q4, c4, rfl⟩ := sl4.shape
    have w2 : Low M1.length (.slice q4 l.length c4) := Low.of_sl sl4 la4
    (repeat (first | (with_reducible refine AWo.cons ?_) | ((with_reducible refine Step.id ?_); first | ((with_reducible apply Step.move); exact rfl; exact rfl) | ((with_reducible apply Step.assign); exact rfl; exact rfl) | ((with_reducible apply Step.len); exact rfl; (focus (assumption)); (focus (decide +kernel)); exact rfl) | ((with_reducible apply Step.make1 0); exact rfl; exact rfl; exact rfl; exact el47; (focus (omega)); exact rfl; (focus (first | (simp only [List.nil_append, List.cons_append, List.set_cons_zero, List.set_cons_succ, iv_set, bv_set, iv_rep, bv_rep]; done) | (simp only [List.nil_append, List.cons_append, List.set_cons_zero, List.set_cons_succ, iv_set, bv_set, iv_rep, bv_rep]; rfl) | rfl)))) | (with_reducible refine AWo.nil ?_) | ((with_reducible apply AW.seq)) | ((with_reducible apply Then.n)) | ((with_reducible apply AW.regL)) | ((with_reducible apply AW.block))))
    refine AW.loopT (fun n t L => ∃ i : Nat, n = l.length - i ∧ i ≤ l.length ∧ L = [some { cells := iv (cntT K.length l i) }] ∧
      t = [(11, .slice (some ⟨M1.length + 0, 0, none⟩) K.length K.length), (28, .slice q4 l.length c4), (29, .int .i64 (l.length : Nat)), (30, .int .i64 (i : Nat))])
      ⟨_, _, _, (Or.inl ⟨rfl, (by repeat (first | exact trivial | (refine And.intro rfl ?_)))⟩), 0, rfl, Nat.zero_le _, rfl, rfl⟩ ?_
    rintro n t L ⟨i, rfl, hi, rfl, rfl⟩
    rcases Nat.lt_or_ge i l.length with hlt | hge
    · have rp := rd4 i hlt
      have hmem : l.getD i default ∈ l := by rw [getD_in _ _ hlt]; exact List.getElem_mem hlt
      have hx := (hl3 _ hmem).1
      have hc := cntT_in K.length l (l.getD i default).1 i
      have hcl := cntT_len K.length l i
      have hst : (cntT K.length l i).set (l.getD i default).1 ((cntT K.length l i).getD (l.getD i default).1 0 + 1) = cntT K.length l (i + 1) := rfl
      generalize l.getD i default = y at *
      obtain ⟨yk, yr, yt⟩ := y
      simp only at hx hc hst
      simp only [plc1, Rc.cells, List.cons_append, List.nil_append] at rp
      generalize hct : cntT K.length l i = ct at *
      (repeat (first | (with_reducible refine AWo.cons ?_) | ((with_reducible refine Step.id ?_); first | ((with_reducible apply Step.move); exact rfl; exact rfl) | ((with_reducible apply Step.load); exact rfl; (focus (decide +kernel)); exact rfl; (focus (first | exact Rd.new rfl (iv_get (by first | omega | (simp; omega))) | exact Rd.new rfl rfl))) | ((with_reducible apply Step.loadL (n := 6)); exact rfl; (focus (decide +kernel)); (focus (decide +kernel)); exact rfl; (focus (exact RdL.old _ (by assumption))); exact rfl; exact rfl) | ((with_reducible apply Step.ix1z); exact rfl; (focus (exact Sl.mk (by omega))); exact rfl; (focus (decide +kernel)); exact rfl; (focus (omega))) | ((with_reducible apply Step.ix (s := 6)); exact rfl; (focus (assumption)); exact rfl; (focus (decide +kernel)); exact rfl; (focus (omega))) | ((with_reducible apply Step.field0); exact rfl; (focus (decide +kernel)); exact rfl) | ((with_reducible apply Step.add); exact rfl; exact rfl; (focus (omega)); exact rfl) | ((with_reducible apply Step.lss); exact rfl; exact rfl; exact rfl) | ((with_reducible apply Step.store (k := 0)); exact rfl; exact rfl; exact rfl; exact rfl; (focus (decide +kernel)); exact rfl; exact rfl; (focus (first | omega | (simp [iv, bv]; done) | (simp [iv, bv]; omega))); (focus (first | (simp only [List.nil_append, List.cons_append, List.set_cons_zero, List.set_cons_succ, iv_set, bv_set, iv_rep, bv_rep]; done) | (simp only [List.nil_append, List.cons_append, List.set_cons_zero, List.set_cons_succ, iv_set, bv_set, iv_rep, bv_rep]; rfl) | rfl))) | ((with_reducible apply Step.alloc 1); exact rfl; exact ze82; exact rfl; (focus (first | (simp only [List.nil_append, List.cons_append, List.set_cons_zero, List.set_cons_succ, iv_set, bv_set, iv_rep, bv_rep]; done) | (simp only [List.nil_append, List.cons_append, List.set_cons_zero, List.set_cons_succ, iv_set, bv_set, iv_rep, bv_rep]; rfl) | rfl))) | ((with_reducible apply Step.storeA (k := 1) (n := 6)); exact rfl; exact rfl; exact rfl; exact rfl; (focus (decide +kernel)); exact rfl; (focus (kernel_rfl)); exact rfl; (focus (first | (simp only [List.nil_append, List.cons_append, List.set_cons_zero, List.set_cons_succ, iv_set, bv_set, iv_rep, bv_rep]; done) | (simp only [List.nil_append, List.cons_append, List.set_cons_zero, List.set_cons_succ, iv_set, bv_set, iv_rep, bv_rep]; rfl) | rfl)))) | (with_reducible refine AWo.nil ?_) | ((with_reducible apply AW.seq)) | ((with_reducible apply Then.n)) | ((with_reducible apply AW.regL)) | ((with_reducible apply AW.block)) | ((with_reducible apply InBlk.n)) | ((with_reducible apply AW.skip)) | ((with_reducible apply AW.condT); exact rfl; (focus ((simp only [decide_eq_true_eq, decide_eq_false_iff_not, Bool.not_eq_true', Bool.not_eq_false', Bool.not_true, Bool.not_false]; first | assumption | omega))))))
      exact ⟨_, [(11, .slice (some ⟨M1.length + 0, 0, none⟩) K.length K.length), (28, .slice q4 l.length c4), (29, .int .i64 (l.length : Nat)), (30, .int .i64 (i + 1 : Nat))], [some { cells := iv (ct.set yk (ct.getD yk 0 + 1)) }], by omega, (Back.trim rfl rfl (by repeat (first | exact CellsOk.nil | refine CellsOk.cons (by exact g0_iv _) ?_)) (by repeat (first | exact trivial | (refine And.intro ⟨rfl, by (first | exact Low.rid (by assumption) (by simp) | exact .int _ _ | exact .slice _ _ _ _ (by first | (simp; done) | omega | (simp; omega)))⟩ ?_)))), i + 1, rfl, by omega, by rw [hst], rfl⟩
    · obtain rfl : i = l.length := by omega
      (repeat (first | (with_reducible refine AWo.cons ?_) | ((with_reducible refine Step.id ?_); first | ((with_reducible apply Step.move); exact rfl; exact rfl) | ((with_reducible apply Step.assign); exact rfl; exact rfl) | ((with_reducible apply Step.lss); exact rfl; exact rfl; exact rfl)) | (with_reducible refine AWo.nil ?_) | ((with_reducible apply AW.seq)) | ((with_reducible apply Then.n)) | ((with_reducible apply AW.regL)) | ((with_reducible apply AW.exit)) | ((with_reducible apply InBlk.hit)) | ((with_reducible apply Then.e)) | ((with_reducible apply AW.condF); exact rfl; (focus ((simp only [decide_eq_true_eq, decide_eq_false_iff_not, Bool.not_eq_true', Bool.not_eq_false', Bool.not_true, Bool.not_false]; first | assumption | omega))))))
      (refine AW.ret ?_; (repeat (first | refine Then.r ?_ | refine InBlk.r ?_)))
      exact ⟨_, rfl, N1 ++ [some { cells := iv (cntT K.length l l.length) }], by rw [hN1, List.append_assoc], _, rfl, ints_new rfl rfl _ (cntT_len _ _ _).symm⟩
  · have hc : cntM K.length (l, e) = [] := by unfold cntM; rw [if_neg he]
    rw [hc]
    (repeat (first | (with_reducible refine AWo.cons ?_) | ((with_reducible refine Step.id ?_); first | ((with_reducible apply Step.move); exact rfl; exact rfl) | ((with_reducible apply Step.assign); exact rfl; exact rfl) | ((with_reducible apply Step.neq); exact rfl; exact rfl; exact rfl) | ((with_reducible apply Step.extract); exact rfl; exact rfl; exact rfl)) | (with_reducible refine AWo.nil ?_) | ((with_reducible apply AW.seq)) | ((with_reducible apply Then.n)) | ((with_reducible apply AW.regL)) | ((with_reducible apply AW.condT); exact rfl; (focus ((simp only [decide_eq_true_eq, decide_eq_false_iff_not, Bool.not_eq_true', Bool.not_eq_false', Bool.not_true, Bool.not_false]; first | assumption | omega))))))
    (refine AW.ret ?_; (repeat (first | refine Then.r ?_ | refine InBlk.r ?_)))
    exact ⟨_, rfl, N1, by rw [hN1], _, rfl, ints_nil (by rw [hN1, List.length_append]; omega)⟩
theorem rdL_rect {m : AM} {a o k : Nat} {r : R4} {t : Bool} (h : RdL m a o (plc1 (k, r, t))) : RdL m a (o + 1) r.rc.cells := by
  obtain ⟨b, h1, h2⟩ := h
  refine ⟨b, h1, fun j v hj => ?_⟩
  have hl := (List.getElem?_eq_some_iff.1 hj).1
  have := h2 (j + 1) v (by
    rcases j with _ | _ | _ | _ | j
    · exact hj
    · exact hj
    · exact hj
    · exact hj
    · exact absurd hl (by simp [Rc.cells]))
  rwa [show o + (j + 1) = o + 1 + j by omega] at this
set_option maxHeartbeats 16000000 in
set_option maxRecDepth 100000 in
theorem CutReads_ok {m : AM} {sv kv pv : Value} {B : Brd} {K : List Kd} {ps : List Nd} (hs : Strs m sv B) (hk : Kds m kv K) (hkl : K.length ≤ 9223372036854775807) (hp : Nds m pv ps) (hpl : ps.length ≤ 9223372036854775807) :
    ACall Tryd.prog 13 #[sv, kv, pv] m (Ret (.bool true) m) := by
  have hM : 0 < m.length := by obtain ⟨A1, O1, sl1, la1, rd1⟩ := hs; omega
  obtain ⟨A4, O4, sl4, la4, _⟩ := id hp
  obtain ⟨q4, c4, rfl⟩ := sl4.shape
  refine ACall.drop (.bool _) ?_
  refine ACall.start Tryd.func13 rfl rfl ?_
  by_cases hbig : 2000 < ps.length
  · (repeat (first | (with_reducible refine AWo.cons ?_) | ((with_reducible refine Step.id ?_); first | ((with_reducible apply Step.move); exact rfl; exact rfl) | ((with_reducible apply Step.assign); exact rfl; exact rfl) | ((with_reducible apply Step.gtr); exact rfl; exact rfl; exact rfl) | ((with_reducible apply Step.len); exact rfl; (focus (assumption)); (focus (decide +kernel)); exact rfl) | ((with_reducible apply Step.callR fit); exact rfl; exact Tryd.func21; exact rfl; exact rfl; exact (awake_ok))) | (with_reducible refine AWo.nil ?_) | ((with_reducible apply AW.seq)) | ((with_reducible apply Then.n)) | ((with_reducible apply AW.regL)) | ((with_reducible apply AW.condT); exact rfl; (focus ((simp only [decide_eq_true_eq, decide_eq_false_iff_not, Bool.not_eq_true', Bool.not_eq_false', Bool.not_true, Bool.not_false]; first | assumption | omega))))))
    (refine AW.ret ?_; (repeat (first | refine Then.r ?_ | refine InBlk.r ?_)))
    exact ⟨_, rfl, rfl, [], rfl⟩
  have haw : ∀ M, ACall Tryd.prog 21 #[] M (Ret (.bool true) M) := fun M => awake_ok
  -- what holds wherever the memory has grown
  have S0 : ∀ M, (∃ N, M = m ++ N) → Strs M sv B := fun M ⟨N, e⟩ => by rw [e]; exact hs.old _
  have K0 : ∀ M, (∃ N, M = m ++ N) → Kds M kv K := fun M ⟨N, e⟩ => by rw [e]; exact hk.old _
  have P0 : ∀ M, (∃ N, M = m ++ N) → Nds M (.slice q4 ps.length c4) ps := fun M ⟨N, e⟩ => by rw [e]; exact hp.old _
  obtain ⟨t1, t2, t3⟩ := rdg_take B K ps
  have hcl := cntM_len B K ps
  have hrl := rstM_len B K ps
  obtain ⟨hl1, hl2, hl3⟩ := rdgM_all (B := B) (K := K) (ps := ps)
  have O := fun M h T => of_ok ((K0 M h).old T) hkl
  have N := fun M h T => nodes_ok ((P0 M h).old T) (by omega)
  have R1 := fun M (h : ∃ N, M = m ++ N) => Read_ok (m := M ++ [gb (kvc (K.take 14)) 5, gb (ndc ps) 3]) (ps := ps) ((S0 M h).old _) (kds_at (k := 0) (l := K.take 14) rfl) (PN.of_nds (nds_gv (k := 1) (l := ps) rfl)) (by omega)
  have R2 := fun M (h : ∃ N, M = m ++ N) => RRead_ok (m := M) (S0 M h) (K0 M h) (PN.of_nds (P0 M h)) (by omega)
  have C1 := fun M (h : ∃ N, M = m ++ N) => Counts_ok (m := M ++ [gb (kvc (K.take 14)) 5, gb (ndc ps) 3]) (ps := ps) ((S0 M h).old _) (kds_at (k := 0) (l := K.take 14) rfl) (PN.of_nds (nds_gv (k := 1) (l := ps) rfl)) (by omega)
  have C2 := fun M (h : ∃ N, M = m ++ N) => RCounts_ok (m := M) (S0 M h) (K0 M h) (PN.of_nds (P0 M h)) (by omega)
  have T1 := fun M (h : ∃ N, M = m ++ N) => Rest_ok (m := M ++ [gb (kvc (K.take 14)) 5, gb (ndc ps) 3]) (ps := ps) ((S0 M h).old _) (kds_at (k := 0) (l := K.take 14) rfl) (PN.of_nds (nds_gv (k := 1) (l := ps) rfl)) (by omega)
  have T2 := fun M (h : ∃ N, M = m ++ N) => RRest_ok (m := M) (S0 M h) (K0 M h) (PN.of_nds (P0 M h)) (by omega)
  simp only [t1, t2, t3] at R1 C1 T1
  clear hs hk hp t1 t2 t3
  generalize cntM K.length (rdgM B K ps) = cn at *
  generalize rstM B (rdgM B K ps) = rs at *
  generalize worthL K (rdgM B K ps).1 = ws at *
  generalize rdgM B K ps = x at *
  obtain ⟨l, e⟩ := x
  simp only at R1 R2 C1 C2 T1 T2 hl1 hl2 hl3
  have hm0 : ∃ N, m = m ++ N := ⟨[], (List.append_nil m).symm⟩
  (repeat (first | (with_reducible refine AWo.cons ?_) | ((with_reducible refine Step.id ?_); first | ((with_reducible apply Step.move); exact rfl; exact rfl) | ((with_reducible apply Step.assign); exact rfl; exact rfl) | ((with_reducible apply Step.gtr); exact rfl; exact rfl; exact rfl) | ((with_reducible apply Step.len); exact rfl; (focus (assumption)); (focus (decide +kernel)); exact rfl) | ((with_reducible apply Step.callG fit (k := 0)); exact rfl; exact rfl; exact Tryd.func23; exact rfl; exact rfl; exact (O m hm0 _); (focus (first | (simp only [List.nil_append, List.cons_append, List.set_cons_zero, List.set_cons_succ, iv_set, bv_set, iv_rep, bv_rep]; done) | (simp only [List.nil_append, List.cons_append, List.set_cons_zero, List.set_cons_succ, iv_set, bv_set, iv_rep, bv_rep]; rfl) | rfl))) | ((with_reducible apply Step.callG fit (k := 1)); exact rfl; exact rfl; exact Tryd.func42; exact rfl; exact rfl; exact (N m hm0 _); (focus (first | (simp only [List.nil_append, List.cons_append, List.set_cons_zero, List.set_cons_succ, iv_set, bv_set, iv_rep, bv_rep]; done) | (simp only [List.nil_append, List.cons_append, List.set_cons_zero, List.set_cons_succ, iv_set, bv_set, iv_rep, bv_rep]; rfl) | rfl)))) | (with_reducible refine AWo.nil ?_) | ((with_reducible apply AW.seq)) | ((with_reducible apply Then.n)) | ((with_reducible apply AW.regL)) | ((with_reducible apply AW.skip)) | ((with_reducible apply AW.condF); exact rfl; (focus ((simp only [decide_eq_true_eq, decide_eq_false_iff_not, Bool.not_eq_true', Bool.not_eq_false', Bool.not_true, Bool.not_false]; first | assumption | omega))))))
  ((with_reducible apply Step.callX fit); exact rfl; exact Tryd.func41; exact rfl; exact rfl; exact (R1 m hm0))
  rintro _ M1 ⟨N1, hN1⟩ ⟨u1, rfl, hpc1⟩
  have hm1 : ∃ N, M1 ++ [] = m ++ N := ⟨_, by rw [hN1, List.append_nil, List.append_assoc]⟩
  clear hN1 R1
  (repeat (first | (with_reducible refine AWo.cons ?_) | ((with_reducible refine Step.id ?_); first | ((with_reducible apply Step.move); exact rfl; exact rfl) | ((with_reducible apply Step.assign); exact rfl; exact rfl) | ((with_reducible apply Step.extract); exact rfl; exact rfl; exact rfl)) | (with_reducible refine AWo.nil ?_) | ((with_reducible apply AW.seq)) | ((with_reducible apply Then.n)) | ((with_reducible apply AW.regL))))
  ((with_reducible apply Step.callX fit); exact rfl; exact Tryd.func46; exact rfl; exact rfl; exact (R2 _ hm1))
  rintro _ M2 ⟨N2, hN2⟩ ⟨u2, rfl, hpc2⟩
  have hm2 : ∃ N, M2 = m ++ N := pre_up hm1 ⟨_, hN2⟩
  have hpc1' : Pcs M2 u1 l := by rw [hN2]; exact (hpc1.old _).old _
  clear hN2 R2 hpc1 hm1
  obtain ⟨A5, O5, sl5, la5, rd5⟩ := hpc1'
  obtain ⟨A6, O6, sl6, la6, rd6⟩ := hpc2
  obtain ⟨q5, c5, rfl⟩ := sl5.shape
  obtain ⟨q6, c6, rfl⟩ := sl6.shape
  (repeat (first | (with_reducible refine AWo.cons ?_) | ((with_reducible refine Step.id ?_); first | ((with_reducible apply Step.gdT); exact rfl; exact rfl; (focus ((simp; done)))) | ((with_reducible apply Step.move); exact rfl; exact rfl) | ((with_reducible apply Step.assign); exact rfl; exact rfl) | ((with_reducible apply Step.neq); exact rfl; exact rfl; exact rfl) | ((with_reducible apply Step.len); exact rfl; (focus (assumption)); (focus (decide +kernel)); exact rfl) | ((with_reducible apply Step.extract); exact rfl; exact rfl; exact rfl) | ((with_reducible apply Step.pickF); exact rfl; exact rfl; exact rfl; exact rfl; (focus ((simp; done))))) | (with_reducible refine AWo.nil ?_) | ((fail_if_success (with_reducible refine AW.atR (id := 7) ?_)); ((with_reducible apply AW.seq))) | ((with_reducible apply Then.n)) | ((with_reducible apply AW.regL)) | ((with_reducible apply AW.skip)) | ((with_reducible apply AW.condF); exact rfl; (focus ((simp; done))))))
  rw [List.append_nil]
  refine AW.rebase ?_
  have w5 : Low M2.length (.slice q5 l.length c5) := Low.of_sl sl5 la5
  have w6 : Low M2.length (.slice q6 l.length c6) := Low.of_sl sl6 la6
  have w0 : ∃ A1 O1, Sl sv A1 O1 B.length ∧ A1 < M2.length := by obtain ⟨A1, O1, h1, h2, _⟩ := S0 _ hm2; exact ⟨A1, O1, h1, h2⟩
  obtain ⟨A1, O1, sl1, la1⟩ := w0
  have w1 : ∃ A2 O2, Sl kv A2 O2 K.length ∧ A2 < M2.length := by obtain ⟨A1, O1, h1, h2, _⟩ := K0 _ hm2; exact ⟨A1, O1, h1, h2⟩
  obtain ⟨A2, O2, sl2, la2⟩ := w1
  have w3 : ∃ A3 O3, Sl (.slice q4 ps.length c4) A3 O3 ps.length ∧ A3 < M2.length := by obtain ⟨A1, O1, h1, h2, _⟩ := P0 _ hm2; exact ⟨A1, O1, h1, h2⟩
  obtain ⟨A3, O3, sl3, la3⟩ := w3
  have l1 : Low M2.length sv := Low.of_sl sl1 la1
  have l2 : Low M2.length kv := Low.of_sl sl2 la2
  have l3 : Low M2.length (.slice q4 ps.length c4) := Low.of_sl sl3 la3
  (repeat (first | (with_reducible refine AWo.cons ?_) | ((with_reducible refine Step.id ?_); first | ((with_reducible apply Step.move); exact rfl; exact rfl) | ((with_reducible apply Step.len); exact rfl; (focus (assumption)); (focus (decide +kernel)); exact rfl)) | (with_reducible refine AWo.nil ?_) | ((with_reducible apply AW.seq)) | ((with_reducible apply Then.n)) | ((with_reducible apply AW.regL)) | ((with_reducible apply AW.block))))
  refine AW.loopT (fun n t L => ∃ i : Nat, n = l.length - i ∧ i ≤ l.length ∧ L = [] ∧
    t = [(0, sv), (1, kv), (2, .slice q4 ps.length c4), (10, .slice q6 l.length c6), (58, .slice q5 l.length c5), (59, .int .i64 (l.length : Nat)), (60, .int .i64 (i : Nat))])
    ⟨_, _, _, (Or.inl ⟨rfl, (by repeat (first | exact trivial | (refine And.intro rfl ?_)))⟩), 0, rfl, Nat.zero_le _, rfl, rfl⟩ ?_
  rintro n t L ⟨i, rfl, hi, rfl, rfl⟩
  rcases Nat.lt_or_ge i l.length with hlt | hge
  · have r5 := rd5 i hlt
    have r6 := rd6 i hlt
    clear O N C1 C2 T1 T2 S0 K0 P0
    generalize l.getD i default = y at *
    obtain ⟨yk, yr, yt⟩ := y
    have r6r := rdL_rect r6
    have r60 := r6.at_ 0 rfl
    have r65 := r6.at_ 5 rfl
    simp only [plc1] at r5
    generalize yr.rc = rc at *
    obtain ⟨rx, ry, rw', rh⟩ := rc
    simp only [Rc.cells, List.cons_append, List.nil_append] at r5 r6r
    rw [Nat.add_zero] at r60
    have rq : ∀ T, RdL (M2 ++ (some { cells := [.int .i64 (yk : Nat), .int .i64 rx, .int .i64 ry, .int .i64 rw', .int .i64 rh, .bool yt] } :: T)) (M2.length + 0) (0 + 1) [.int .i64 rx, .int .i64 ry, .int .i64 rw', .int .i64 rh] := fun T => ⟨_, by rw [get_app]; rfl, fun j v hj => by rcases j with _ | _ | _ | _ | j <;> first | exact hj | (simp at hj)⟩
    (repeat (first | (with_reducible refine AWo.cons ?_) | ((with_reducible refine Step.id ?_); first | ((with_reducible apply Step.gdT); exact rfl; exact rfl; (focus ((simp; done)))) | ((with_reducible apply Step.move); exact rfl; exact rfl) | ((with_reducible apply Step.assign); exact rfl; exact rfl) | ((with_reducible apply Step.load); exact rfl; (focus (decide +kernel)); exact rfl; (focus (first | exact Rd.new rfl rfl | exact Rd.old _ (by assumption)))) | ((with_reducible apply Step.loadL (n := 4)); exact rfl; (focus (decide +kernel)); (focus (decide +kernel)); exact rfl; (focus (first | exact RdL.old _ (by assumption) | exact rq _)); exact rfl; exact rfl) | ((with_reducible apply Step.loadL (n := 6)); exact rfl; (focus (decide +kernel)); (focus (decide +kernel)); exact rfl; (focus (exact RdL.old _ (by assumption))); exact rfl; exact rfl) | ((with_reducible apply Step.ix (s := 6)); exact rfl; (focus (assumption)); exact rfl; (focus (decide +kernel)); exact rfl; (focus (omega))) | ((with_reducible apply Step.field0); exact rfl; (focus (decide +kernel)); exact rfl) | ((with_reducible apply Step.field (k := 1)); exact rfl; (focus (decide +kernel)); exact rfl) | ((with_reducible apply Step.lss); exact rfl; exact rfl; exact rfl) | ((with_reducible apply Step.neq); exact rfl; exact rfl; exact rfl) | ((with_reducible apply Step.alloc 0); exact rfl; exact ze81; exact rfl; (focus (first | (simp only [List.nil_append, List.cons_append, List.set_cons_zero, List.set_cons_succ, iv_set, bv_set, iv_rep, bv_rep]; done) | (simp only [List.nil_append, List.cons_append, List.set_cons_zero, List.set_cons_succ, iv_set, bv_set, iv_rep, bv_rep]; rfl) | rfl))) | ((with_reducible apply Step.storeA (k := 0) (n := 6)); exact rfl; exact rfl; exact rfl; exact rfl; (focus (decide +kernel)); exact rfl; (focus (kernel_rfl)); exact rfl; (focus (first | (simp only [List.nil_append, List.cons_append, List.set_cons_zero, List.set_cons_succ, iv_set, bv_set, iv_rep, bv_rep]; done) | (simp only [List.nil_append, List.cons_append, List.set_cons_zero, List.set_cons_succ, iv_set, bv_set, iv_rep, bv_rep]; rfl) | rfl)))) | (with_reducible refine AWo.nil ?_) | ((with_reducible apply AW.seq)) | ((with_reducible apply Then.n)) | ((with_reducible apply AW.regL)) | ((with_reducible apply AW.block)) | ((with_reducible apply AW.drawL fit); (focus (decide +kernel))) | ((with_reducible apply AW.skip)) | ((with_reducible apply AW.condT); exact rfl; (focus ((simp only [decide_eq_true_eq, decide_eq_false_iff_not, Bool.not_eq_true', Bool.not_eq_false', Bool.not_true, Bool.not_false]; first | assumption | omega))))))
    ((with_reducible apply Step.neqRc); exact rfl; exact rfl; exact rfl)
    (repeat (first | (with_reducible refine AWo.cons ?_) | ((with_reducible refine Step.id ?_); first | ((with_reducible apply Step.gdT); exact rfl; exact rfl; (focus (rfl))) | ((with_reducible apply Step.move); exact rfl; exact rfl) | ((with_reducible apply Step.load); exact rfl; (focus (decide +kernel)); exact rfl; (focus (first | exact Rd.new rfl rfl | exact Rd.old _ (by assumption)))) | ((with_reducible apply Step.ix (s := 6)); exact rfl; (focus (assumption)); exact rfl; (focus (decide +kernel)); exact rfl; (focus (omega))) | ((with_reducible apply Step.field (k := 5)); exact rfl; (focus (decide +kernel)); exact rfl) | ((with_reducible apply Step.add); exact rfl; exact rfl; (focus (omega)); exact rfl) | ((with_reducible apply Step.neqB); exact rfl; exact rfl; exact un4; exact rfl) | ((with_reducible apply Step.pickF); exact rfl; exact rfl; exact rfl; exact rfl; (focus (first | rfl | (simp; done))))) | (with_reducible refine AWo.nil ?_) | ((with_reducible apply Then.n)) | ((with_reducible apply AW.regL)) | ((with_reducible apply InBlk.n)) | ((with_reducible apply AW.skip)) | ((with_reducible apply AW.condF); exact rfl; (focus ((simp; done))))))
    exact ⟨_, [(0, sv), (1, kv), (2, .slice q4 ps.length c4), (10, .slice q6 l.length c6), (58, .slice q5 l.length c5), (59, .int .i64 (l.length : Nat)), (60, .int .i64 (i + 1 : Nat))], [], by omega, (Back.trim rfl rfl (by repeat (exact CellsOk.nil)) (by repeat (first | exact trivial | (refine And.intro ⟨rfl, by (first | exact .int _ _ | exact Ren.of_sl (by assumption) (by first | omega | (simp; omega)))⟩ ?_)))), i + 1, rfl, by omega, rfl, rfl⟩
  · obtain rfl : i = l.length := by omega
    (repeat (first | (with_reducible refine AWo.cons ?_) | ((with_reducible refine Step.id ?_); first | ((with_reducible apply Step.move); exact rfl; exact rfl) | ((with_reducible apply Step.lss); exact rfl; exact rfl; exact rfl) | ((with_reducible apply Step.callG fit (k := 0)); exact rfl; exact rfl; exact Tryd.func23; exact rfl; exact rfl; exact (O M2 hm2 _); (focus (first | (simp only [List.nil_append, List.cons_append, List.set_cons_zero, List.set_cons_succ, iv_set, bv_set, iv_rep, bv_rep]; done) | (simp only [List.nil_append, List.cons_append, List.set_cons_zero, List.set_cons_succ, iv_set, bv_set, iv_rep, bv_rep]; rfl) | rfl))) | ((with_reducible apply Step.callG fit (k := 1)); exact rfl; exact rfl; exact Tryd.func42; exact rfl; exact rfl; exact (N M2 hm2 _); (focus (first | (simp only [List.nil_append, List.cons_append, List.set_cons_zero, List.set_cons_succ, iv_set, bv_set, iv_rep, bv_rep]; done) | (simp only [List.nil_append, List.cons_append, List.set_cons_zero, List.set_cons_succ, iv_set, bv_set, iv_rep, bv_rep]; rfl) | rfl)))) | (with_reducible refine AWo.nil ?_) | ((with_reducible apply AW.seq)) | ((with_reducible apply Then.n)) | ((with_reducible apply AW.regL)) | ((with_reducible apply AW.exit)) | ((with_reducible apply InBlk.hit)) | ((with_reducible apply Then.e)) | ((with_reducible apply AW.condF); exact rfl; (focus ((simp only [decide_eq_true_eq, decide_eq_false_iff_not, Bool.not_eq_true', Bool.not_eq_false', Bool.not_true, Bool.not_false]; first | assumption | omega))))))
    ((with_reducible apply Step.callX fit); exact rfl; exact Tryd.func47; exact rfl; exact rfl; exact (C1 M2 hm2))
    rintro _ M3 ⟨N3, hN3⟩ ⟨v1, rfl, hi1⟩
    have hm3 : ∃ N, M3 ++ [] = m ++ N := pre_up hm2 ⟨_, by rw [hN3, List.append_nil, List.append_assoc]⟩
    (repeat (first | (with_reducible refine AWo.cons ?_) | ((with_reducible refine Step.id ?_); first | ((with_reducible apply Step.move); exact rfl; exact rfl) | ((with_reducible apply Step.assign); exact rfl; exact rfl) | ((with_reducible apply Step.extract); exact rfl; exact rfl; exact rfl)) | (with_reducible refine AWo.nil ?_) | ((with_reducible apply AW.seq)) | ((with_reducible apply Then.n)) | ((with_reducible apply AW.regL))))
    ((with_reducible apply Step.callX fit); exact rfl; exact Tryd.func48; exact rfl; exact rfl; exact (C2 _ hm3))
    rintro _ M4 ⟨N4, hN4⟩ ⟨v2, rfl, hi2⟩
    have hm4 : ∃ N, M4 = m ++ N := pre_up hm3 ⟨_, hN4⟩
    have hi1' : Ints M4 v1 cn := by rw [hN4]; exact (hi1.old _).old _
    clear hN3 hN4 C1 C2 hi1
    (repeat (first | (with_reducible refine AWo.cons ?_) | ((with_reducible refine Step.id ?_); first | ((with_reducible apply Step.move); exact rfl; exact rfl) | ((with_reducible apply Step.assign); exact rfl; exact rfl) | ((with_reducible apply Step.extract); exact rfl; exact rfl; exact rfl) | ((with_reducible apply Step.callG fit (k := 0)); exact rfl; exact rfl; exact Tryd.func23; exact rfl; exact rfl; exact (O M4 hm4 _); (focus (first | (simp only [List.nil_append, List.cons_append, List.set_cons_zero, List.set_cons_succ, iv_set, bv_set, iv_rep, bv_rep]; done) | (simp only [List.nil_append, List.cons_append, List.set_cons_zero, List.set_cons_succ, iv_set, bv_set, iv_rep, bv_rep]; rfl) | rfl))) | ((with_reducible apply Step.callG fit (k := 1)); exact rfl; exact rfl; exact Tryd.func42; exact rfl; exact rfl; exact (N M4 hm4 _); (focus (first | (simp only [List.nil_append, List.cons_append, List.set_cons_zero, List.set_cons_succ, iv_set, bv_set, iv_rep, bv_rep]; done) | (simp only [List.nil_append, List.cons_append, List.set_cons_zero, List.set_cons_succ, iv_set, bv_set, iv_rep, bv_rep]; rfl) | rfl)))) | (with_reducible refine AWo.nil ?_) | ((with_reducible apply AW.seq)) | ((with_reducible apply Then.n)) | ((with_reducible apply AW.regL))))
    ((with_reducible apply Step.callX fit); exact rfl; exact Tryd.func49; exact rfl; exact rfl; exact (T1 M4 hm4))
    rintro _ M5 ⟨N5, hN5⟩ ⟨s1, rfl, hs1⟩
    have hm5 : ∃ N, M5 ++ [] = m ++ N := pre_up hm4 ⟨_, by rw [hN5, List.append_nil, List.append_assoc]⟩
    (repeat (first | (with_reducible refine AWo.cons ?_) | ((with_reducible refine Step.id ?_); first | ((with_reducible apply Step.move); exact rfl; exact rfl) | ((with_reducible apply Step.assign); exact rfl; exact rfl) | ((with_reducible apply Step.extract); exact rfl; exact rfl; exact rfl)) | (with_reducible refine AWo.nil ?_) | ((with_reducible apply AW.seq)) | ((with_reducible apply Then.n)) | ((with_reducible apply AW.regL))))
    ((with_reducible apply Step.callX fit); exact rfl; exact Tryd.func50; exact rfl; exact rfl; exact (T2 _ hm5))
    rintro _ M6 ⟨N6, hN6⟩ ⟨s2, rfl, hs2⟩
    have hm6 : ∃ N, M6 = m ++ N := pre_up hm5 ⟨_, hN6⟩
    have E1 := fun T => equalI_ok (m := M6 ++ T) (v := v1) (w := v2) (l := cn) (k := cn) (b := true) (by rw [hN6, hN5]; exact (((((hi1'.old _).old _).old _).old _).old _)) (by rw [hN6, hN5]; exact (((((hi2.old _).old _).old _).old _).old _)) hcl (by simp)
    have E2 := fun T => equalS_ok (m := M6 ++ T) (v := s1) (w := s2) (l := rs) (by rw [hN6]; exact (((hs1.old _).old _).old _)) (hs2.old _) (by omega)
    (repeat (first | (with_reducible refine AWo.cons ?_) | ((with_reducible refine Step.id ?_); first | ((with_reducible apply Step.gdT); exact rfl; exact rfl; (focus (first | rfl | (simp; done)))) | ((with_reducible apply Step.move); exact rfl; exact rfl) | ((with_reducible apply Step.assign); exact rfl; exact rfl) | ((with_reducible apply Step.eql); exact rfl; exact rfl; exact rfl) | ((with_reducible apply Step.extract); exact rfl; exact rfl; exact rfl) | ((with_reducible apply Step.pickT); exact rfl; exact rfl; exact rfl; exact rfl; (focus (first | rfl | (simp; done)))) | ((with_reducible apply Step.callR fit); exact rfl; exact Tryd.func40; exact rfl; exact rfl; exact (E1 _)) | ((with_reducible apply Step.callR fit); exact rfl; exact Tryd.func51; exact rfl; exact rfl; exact (E2 _)) | ((with_reducible apply Step.callR fit); exact rfl; exact Tryd.func21; exact rfl; exact rfl; exact (haw _))) | (with_reducible refine AWo.nil ?_) | ((with_reducible apply AW.seq)) | ((with_reducible apply Then.n)) | ((with_reducible apply AW.regL))))
    (refine AW.ret ?_; (repeat (first | refine Then.r ?_ | refine InBlk.r ?_)))
    obtain ⟨N, hN⟩ := hm6
    exact ⟨_, rfl, rfl, N, by rw [List.append_nil]; exact hN⟩
end Go.Proofs.YtibhgdglbillaaaDoor.Abs
namespace Go.Proofs.YtibhgdglbillaaaDoor.Abs
set_option linter.unusedSimpArgs false
set_option linter.unusedVariables false
open Go.RowKit
open Go.Proofs.YtibhgdglbillaaaDoor.Sim
open Go.ChangeShapes Go.WideShapes Go.Deep
section
variable {H : Type} {enc : TypeId × Value → H} {P : Program} {w : World} {base : Nat} {spare : Nat → Bool} {held : Bool}
theorem arg_nodes {r : Reach} {b0 : Nat} {T e : TypeId} {fs : Array Field} {a : Option Addr} {n c : Nat} {d : DataW H} {p : List MemPlace} (ht : P.underlying T = some (.slice e)) (he : P.underlying e = some (.struct fs)) (hone : oneCellFields P fs = true) (hC : P.cellsOf e = fs.size)
    (hq : fs.size = 2 + 1) (hi : fieldsKB P fs 2 = true) (hok : Value.okWide P w r b0 T (.slice a n c)) (h : DataW.Trod enc P w base spare held T (.slice a n c) d p) :
    ∃ l : List Nd, l.length = n ∧ n ≤ maxLen ∧ Okarg w (.slice a n c, ndc l) ∧ ∀ M : AM, ∀ i, M[i]? = some (mkB (.slice a n c, ndc l)) → Nds M (mkV i (.slice a n c)) l := by
  obtain ⟨F, h1, h2, h3, h4⟩ := arg_kb ht he hone hC hq hi hok h
  have key : ∀ k, ∃ x : Nd, kb (F k) = ndc1 x := fun k => by
    have hk := h1 k
    generalize F k = y at hk ⊢
    obtain ⟨l, b⟩ := y
    simp only at hk
    match l, hk with
    | [x, y], _ => exact ⟨(x, y, b), rfl⟩
  obtain ⟨G, hG⟩ := Classical.axiomOfChoice key
  have e : ((List.range n).flatMap fun k => kb (F k)) = ndc ((List.range n).map G) := by
    unfold ndc
    rw [List.flatMap_map]
    congr 1
    funext k
    exact hG k
  rw [e] at h3 h4
  refine ⟨(List.range n).map G, by simp, h2, h3, fun M i hM => ?_⟩
  obtain ⟨k1, k2, k3⟩ := h4 M i hM
  refine ⟨i, 0, by simpa using k1, k2, fun k hk => ?_⟩
  simp at hk
  have := k3 k hk
  rw [hq, hG k] at this
  have eg : ((List.range n).map G).getD k (0, 0, false) = G k := by simp [hk]
  rw [eg]
  exact this
end
end Go.Proofs.YtibhgdglbillaaaDoor.Abs
