/- Proved here: what the proof of StockBook rests on, part 4 of 6. Conditions: those that each theorem names. -/
import Derived.Test.YtabdnepfcohncaaStockBookK3
namespace Go.Proofs.Ytabdnepfcohncaa.Abs
set_option linter.unusedSimpArgs false
set_option linter.unusedVariables false
open Go.RowKit
open Go.Proofs.Ytabdnepfcohncaa.Sim
open Go.Proofs
theorem by8_all (l : List UInt8) : (by8 l).all (·.oneCell') = true := by
  rw [List.all_eq_true]
  intro v hv
  obtain ⟨x, _, rfl⟩ := List.mem_map.1 hv
  rfl
theorem AW.joinQ {P : Program} {nt : Nat} {m m0 : AM} {t : Fm} {c : Code} {Q : AEx → Fm → AM → Prop} (Mid : Fm → AM → Prop) (h : AW P nt m0 c t m (fun e t' m' => e = .normal ∧ Mid t' m')) (h2 : ∀ t' m', Mid t' m' → Q .normal t' m') : AW P nt m0 c t m Q :=
  h.mono fun e t' m' ⟨e1, e2⟩ => by subst e1; exact h2 _ _ e2
set_option maxHeartbeats 4000000 in
set_option maxRecDepth 100000 in
theorem number_ok {m : AM} {n s : Nat} (hn : n ≤ 9223372036854775807) (hs : s ≤ 8) :
    ACall Try.prog 104 #[.int .i64 (n : Nat), .int .i64 (s : Nat)] m (More (fun M r => Row M m.length 1 r (by8 (be n s)) (be n s).length) m) := by
  refine ACall.start Try.func104 rfl rfl ?_
  (repeat (first | (with_reducible refine AWo.cons ?_) | ((with_reducible refine Step.id ?_); first | ((with_reducible apply Step.move); exact rfl; exact rfl) | ((with_reducible apply Step.assign); exact rfl; exact rfl) | ((with_reducible apply Step.sub); exact rfl; exact rfl; (focus (omega)); exact rfl)) | (with_reducible refine AWo.nil ?_) | ((with_reducible apply AW.seq)) | ((with_reducible apply Then.n)) | ((with_reducible apply AW.regL)) | ((with_reducible apply AW.block))))
  refine AW.loopW (fun q t M => ∃ (k : Nat) (z : Int) (pre : List UInt8) (r : Value), q = k ∧ k ≤ s ∧ z = (k : Int) - 1 ∧ pre ++ be n k = be n s ∧ pre.length + k = s ∧ Row M m.length 1 r (by8 pre) pre.length ∧ (∃ N, M = m ++ N) ∧
    t = fr [(0, .int .i64 (n : Nat)), (5, r), (6, .int .i64 z)]) ⟨_, _, (by repeat (first | exact trivial | (refine And.intro rfl ?_))), s, _, [], _, rfl, Nat.le_refl _, rfl, rfl, by simp, Row.nil, ⟨_, rfl⟩, rfl⟩ ?_
  rintro q t M ⟨k, z, pre, r, rfl, hk, hz, hpre, hpl, hrow, ⟨N, rfl⟩, rfl⟩
  rcases q with _ | k
  · subst hz
    refine AW.rebase ?_
    (repeat (first | (with_reducible refine AWo.cons ?_) | ((with_reducible refine Step.id ?_); first | ((with_reducible apply Step.move); exact rfl; exact rfl) | ((with_reducible apply Step.assign); exact rfl; exact rfl) | ((with_reducible apply Step.geq); exact rfl; exact rfl; exact rfl)) | (with_reducible refine AWo.nil ?_) | ((with_reducible apply AW.seq)) | ((with_reducible apply Then.n)) | ((with_reducible apply AW.regL)) | ((with_reducible apply AW.exit)) | ((with_reducible apply InBlk.hit)) | ((with_reducible apply Then.e)) | ((with_reducible apply AW.condF); exact rfl; (focus (rfl)))))
    (refine AW.ret ?_; (repeat (first | refine Then.r ?_ | refine InBlk.r ?_)))
    rw [show be n 0 = [] from rfl, List.append_nil] at hpre
    subst hpre
    exact ⟨_, rfl, N, by rw [List.append_nil], by rw [List.append_nil]; exact hrow⟩
  · obtain rfl : z = (k : Int) := by omega
    have h8 : (8 : Int) * (k : Int) = ((8 * k : Nat) : Int) := by omega
    refine AW.rebase ?_
    (repeat (first | (with_reducible refine AWo.cons ?_) | ((with_reducible refine Step.id ?_); first | ((with_reducible apply Step.move); exact rfl; exact rfl) | ((with_reducible apply Step.mulE); exact rfl; exact rfl; (focus (assumption)); (focus (omega)); exact rfl) | ((with_reducible apply Step.shrN); exact rfl; exact rfl; (focus (omega)); exact rfl) | ((with_reducible apply Step.geq); exact rfl; exact rfl; exact rfl)) | (with_reducible refine AWo.nil ?_) | ((with_reducible apply AW.seq)) | ((with_reducible apply Then.n)) | ((with_reducible apply AW.regL)) | ((with_reducible apply AW.block)) | ((with_reducible apply AW.skip)) | ((with_reducible apply AW.condT); exact rfl; (focus (rfl)))))
    ((with_reducible apply Step.toB); exact rfl; exact un3; exact un5; exact rfl)
    (repeat (first | (with_reducible refine AWo.cons ?_) | ((with_reducible refine Step.id ?_); ((with_reducible apply Step.buildS 0); exact rfl; exact rfl; exact (fun _ _ => bs22); exact rfl; (focus (first | (simp only [List.nil_append, List.cons_append, List.set_cons_zero, List.set_cons_succ, iv_set, bv_set, iv_rep, bv_rep]; done) | (simp only [List.nil_append, List.cons_append, List.set_cons_zero, List.set_cons_succ, iv_set, bv_set, iv_rep, bv_rep]; rfl) | rfl))))))
    ((with_reducible apply Step.appRow2 (n := pre.length) (xl := 1) (b0 := m.length) (new := [.int .u8 ((UInt8.ofNat (n / 2 ^ (8 * k))).toNat : Nat)])); exact rfl; exact rfl; exact (hrow.old _); exact (Sl.mk (Nat.le_refl _)); exact (fun _ => RdL.new rfl rfl); exact el22; exact un22; exact rfl; exact rfl; exact rfl; (focus (omega)); exact rfl; (focus (simp only [List.length_append]; omega)))
    intro r' M' hr' hml' hk' _
    have hM' := pre_keep (m0 := m) ⟨N ++ _, (List.append_assoc _ _ _)⟩ hml' fun j hj => hk' j (by simp only [List.length_append]; omega) (NotOf.row hrow hj)
    have hr2 : Row M' m.length 1 r' (by8 (pre ++ [UInt8.ofNat (n / 2 ^ (8 * k))])) (pre ++ [UInt8.ofNat (n / 2 ^ (8 * k))]).length := by
      have e1 : by8 (pre ++ [UInt8.ofNat (n / 2 ^ (8 * k))]) = by8 pre ++ [.int .u8 ((UInt8.ofNat (n / 2 ^ (8 * k))).toNat : Nat)] := by simp [by8]
      have e2 : (pre ++ [UInt8.ofNat (n / 2 ^ (8 * k))]).length = pre.length + 1 := by simp
      rw [e1, e2]
      exact hr'
    (repeat (first | (with_reducible refine AWo.cons ?_) | ((with_reducible refine Step.id ?_); first | ((with_reducible apply Step.move); exact rfl; exact rfl) | ((with_reducible apply Step.assign); exact rfl; exact rfl) | ((with_reducible apply Step.sub); exact rfl; exact rfl; (focus (omega)); exact rfl)) | (with_reducible refine AWo.nil ?_) | ((with_reducible apply Then.n)) | ((with_reducible apply AW.regL)) | ((with_reducible apply InBlk.n))))
    exact ⟨_, [(0, .int .i64 (n : Nat)), (5, r'), (6, .int .i64 ((k : Int) - 1))], by omega, (by repeat (first | exact trivial | (refine And.intro rfl ?_))), k, _, _, _, rfl, by omega, rfl, by rw [List.append_assoc]; exact hpre, by rw [List.length_append]; simp; omega, hr2, hM', rfl⟩
set_option maxHeartbeats 8000000 in
set_option maxRecDepth 100000 in
theorem RSave_ok {m : AM} {b0 xk : Nat} {P : List (List Tr)} {pv : Value} (h : RBook m b0 xk P pv) (hok : ∀ l ∈ P, postB l = true) (hpl : P.length ≤ 1000000) :
    ACall Try.prog 45 #[.pointer (some ⟨xk, 0, none⟩)] m (More (fun M r => Byts M r (saveB P)) m) := by
  have hxl := h.lt
  have rp := fun T => Rd.old T (show Rd m xk 0 pv from ⟨_, h.cells, rfl⟩)
  obtain ⟨pc, hrow, hps⟩ := h.posts
  obtain ⟨ar, r1, r2, r3⟩ := hrow.sl (by omega)
  refine ACall.start Try.func45 rfl rfl ?_
  (repeat (first | (with_reducible refine AWo.cons ?_) | ((with_reducible refine Step.id ?_); first | ((with_reducible apply Step.move); exact rfl; exact rfl) | ((with_reducible apply Step.assign); exact rfl; exact rfl) | ((with_reducible apply Step.load); exact rfl; (focus (decide +kernel)); exact rfl; (focus (exact rp _))) | ((with_reducible apply Step.field0); exact rfl; (focus (decide +kernel)); exact rfl) | ((with_reducible apply Step.len); exact rfl; (focus (assumption)); (focus (decide +kernel)); exact rfl) | ((with_reducible apply Step.nilp); exact rfl; exact rfl)) | (with_reducible refine AWo.nil ?_) | ((with_reducible apply AW.seq)) | ((with_reducible apply Then.n)) | ((with_reducible apply AW.regL)) | ((with_reducible apply AW.block))))
  refine AW.loopW (fun q t M => ∃ (k : Nat) (r : Value), q = P.length - k ∧ k ≤ P.length ∧ Row M m.length 1 r (by8 (saveB (P.take k))) (saveB (P.take k)).length ∧ (∃ N, M = m ++ N) ∧
    t = fr [(3, r), (11, pv), (12, .int .i64 (P.length : Nat)), (13, .int .i64 (k : Nat))]) ⟨_, _, (by repeat (first | exact trivial | (refine And.intro rfl ?_))), 0, _, rfl, Nat.zero_le _, Row.nil, ⟨_, rfl⟩, rfl⟩ ?_
  rintro q t M ⟨k, r, rfl, hk, hR, ⟨N, rfl⟩, rfl⟩
  rcases Nat.lt_or_ge k P.length with hlt | hge
  · obtain ⟨u, q1, q2⟩ := hps k hlt
    have rk : ∀ T, Rd (m ++ T) ar (0 + k) u := fun T => Rd.old T (by
      obtain ⟨b, w1, w2⟩ := r3 (by omega)
      exact ⟨b, w1, w2 k u q1⟩)
    simp only [Nat.zero_add] at rk
    have hmem : P.getD k [] ∈ P := by rw [List.getD_eq_getElem?_getD, List.getElem?_eq_getElem hlt]; exact List.getElem_mem hlt
    obtain ⟨p1, p2, p3⟩ := postB_all (hok _ hmem)
    have hsl := saveB_len (P := P.take k) fun q hq => hok q (List.mem_of_mem_take hq)
    rw [List.length_take, Nat.min_eq_left hk] at hsl
    have hsn : saveB (P.take (k + 1)) = saveB (P.take k) ++ postBy (P.getD k []) := by
      rw [List.take_succ_eq_append_getElem hlt, saveB_snoc]; simp [hlt]
    have q3 := fun T => (q2.trs).old T
    generalize P.getD k [] = l at *
    generalize saveB (P.take k) = S at *
    obtain ⟨a3, o3, s1, s2, s3⟩ := q2.trs
    have s3' := fun T j (hj : j < l.length) => (s3 j hj).old T
    have rk1 := fun T => rk (N ++ T)
    simp only [← List.append_assoc] at rk1
    refine AW.rebase ?_
    (repeat (first | (with_reducible refine AWo.cons ?_) | ((with_reducible refine Step.id ?_); first | ((with_reducible apply Step.move); exact rfl; exact rfl) | ((with_reducible apply Step.assign); exact rfl; exact rfl) | ((with_reducible apply Step.load); exact rfl; (focus (decide +kernel)); exact rfl; (focus (exact rk1 _))) | ((with_reducible apply Step.ix1z); exact rfl; (focus (assumption)); exact rfl; (focus (decide +kernel)); exact rfl; (focus (omega))) | ((with_reducible apply Step.lss); exact rfl; exact rfl; exact rfl) | ((with_reducible apply Step.len); exact rfl; (focus (assumption)); (focus (decide +kernel)); exact rfl)) | (with_reducible refine AWo.nil ?_) | ((with_reducible apply AW.seq)) | ((with_reducible apply Then.n)) | ((with_reducible apply AW.regL)) | ((with_reducible apply AW.block)) | ((with_reducible apply AW.skip)) | ((with_reducible apply AW.condT); exact rfl; (focus ((simp only [decide_eq_true_eq, decide_eq_false_iff_not, Bool.not_eq_true', Bool.not_eq_false', Bool.not_true, Bool.not_false]; first | assumption | omega))))))
    ((with_reducible apply Step.toB); exact rfl; exact un3; exact un5; exact rfl)
    (repeat (first | (with_reducible refine AWo.cons ?_) | ((with_reducible refine Step.id ?_); ((with_reducible apply Step.buildS 0); exact rfl; exact rfl; exact (fun _ _ => bs22); exact rfl; (focus (first | (simp only [List.nil_append, List.cons_append, List.set_cons_zero, List.set_cons_succ, iv_set, bv_set, iv_rep, bv_rep]; done) | (simp only [List.nil_append, List.cons_append, List.set_cons_zero, List.set_cons_succ, iv_set, bv_set, iv_rep, bv_rep]; rfl) | rfl))))))
    ((with_reducible apply Step.appRow2 (n := S.length) (xl := 1) (b0 := m.length) (new := by8 [UInt8.ofNat l.length])); exact rfl; exact rfl; exact (hR.old _); exact (Sl.mk (Nat.le_refl _)); exact (fun _ => RdL.new rfl rfl); exact el22; exact un22; exact rfl; exact rfl; exact rfl; (focus (omega)); exact rfl; (focus (simp only [List.length_append]; omega)))
    intro r1' M1 hr1 hml1 hk1 _
    have hM1 := pre_keep (m0 := m) ⟨N ++ _, (List.append_assoc _ _ _)⟩ hml1 fun j hj => hk1 j (by simp only [List.length_append]; omega) (NotOf.row hR hj)
    have hr1 := Row.app8 (b := [UInt8.ofNat l.length]) hr1
    clear hk1
    (repeat (first | (with_reducible refine AWo.cons ?_) | ((with_reducible refine Step.id ?_); first | ((with_reducible apply Step.move); exact rfl; exact rfl) | ((with_reducible apply Step.assign); exact rfl; exact rfl) | ((with_reducible apply Step.len); exact rfl; (focus (assumption)); (focus (decide +kernel)); exact rfl)) | (with_reducible refine AWo.nil ?_) | ((with_reducible apply AW.seq)) | ((with_reducible apply Then.n)) | ((with_reducible apply AW.regL)) | ((with_reducible apply AW.block))))
    refine AW.loopW (fun q t M => ∃ (j : Nat) (r : Value), q = l.length - j ∧ j ≤ l.length ∧ Row M m.length 1 r (by8 (S ++ UInt8.ofNat l.length :: (l.take j).flatMap trB)) (S ++ UInt8.ofNat l.length :: (l.take j).flatMap trB).length ∧ (∃ N, M = m ++ N) ∧
      t = fr [(3, r), (11, pv), (12, .int .i64 (P.length : Nat)), (13, .int .i64 (k : Nat)), (23, u), (24, .int .i64 (l.length : Nat)), (25, .int .i64 (j : Nat))]) ⟨_, _, (by repeat (first | exact trivial | (refine And.intro rfl ?_))), 0, _, rfl, Nat.zero_le _, hr1, hM1, rfl⟩ ?_
    clear hM1 hr1 hml1
    rintro q t M2 ⟨j, r', rfl, hj, hR2, ⟨N2, rfl⟩, rfl⟩
    rcases Nat.lt_or_ge j l.length with hlt' | hge'
    · have hr := fun T => s3' (N2 ++ T) j hlt'
      simp only [← List.append_assoc] at hr
      have ts := take_snocT l j hlt'
      have hmem' : l.getD j default ∈ l := by rw [List.getD_eq_getElem?_getD, List.getElem?_eq_getElem hlt']; exact List.getElem_mem hlt'
      have hx := List.all_eq_true.1 p3 _ hmem'
      have hlen2 : (S ++ UInt8.ofNat l.length :: (l.take j).flatMap trB).length ≤ 500000000 := by
        rw [List.length_append, List.length_cons, trBs_len, List.length_take]; omega
      have hnx : S ++ UInt8.ofNat l.length :: (l.take (j + 1)).flatMap trB = (S ++ UInt8.ofNat l.length :: (l.take j).flatMap trB) ++ trB (l.getD j default) := by
        rw [ts, List.flatMap_append]; simp
      generalize l.getD j default = x at *
      generalize S ++ UInt8.ofNat l.length :: (l.take j).flatMap trB = S2 at *
      obtain ⟨xi, xf, xt, xn⟩ := x
      simp only [Tr.c] at hr
      simp only [okT, decide_eq_true_eq] at hx
      obtain ⟨x1, x2, x3, x4, x5, x6, x7, x8, x9⟩ := hx
      obtain ⟨i, rfl⟩ := Int.eq_ofNat_of_zero_le x1
      obtain ⟨f, rfl⟩ := Int.eq_ofNat_of_zero_le x3
      obtain ⟨t, rfl⟩ := Int.eq_ofNat_of_zero_le x5
      obtain ⟨n, rfl⟩ := Int.eq_ofNat_of_zero_le (show 0 ≤ xn by omega)
      have w1 : ((i : Nat) : Int) * 16 = ((i * 16 : Nat) : Int) := by omega
      have w2 : ((i * 16 : Nat) : Int) + ((f : Nat) : Int) = ((i * 16 + f : Nat) : Int) := by omega
      have etr : trB ⟨i, f, t, n⟩ = [UInt8.ofNat (i * 16 + f), UInt8.ofNat t] ++ be n 4 := by simp [trB]
      rw [etr, ← List.append_assoc] at hnx
      have hnum := fun M => number_ok (m := M) (n := n) (s := 4) (by omega) (by omega)
      have hne : Row (m ++ N2) m.length 1 r' (by8 S2) S2.length := hR2
      refine AW.rebase ?_
      (repeat (first | (with_reducible refine AWo.cons ?_) | ((with_reducible refine Step.id ?_); first | ((with_reducible apply Step.loadL (n := 4)); exact rfl; (focus (decide +kernel)); (focus (decide +kernel)); exact rfl; (focus (exact hr _)); exact rfl; exact rfl) | ((with_reducible apply Step.ix (s := 4)); exact rfl; (focus (assumption)); exact rfl; (focus (decide +kernel)); exact rfl; (focus (omega))) | ((with_reducible apply Step.lss); exact rfl; exact rfl; exact rfl) | ((with_reducible apply Step.alloc 0); exact rfl; exact ze61; exact rfl; (focus (first | (simp only [List.nil_append, List.cons_append, List.set_cons_zero, List.set_cons_succ, iv_set, bv_set, iv_rep, bv_rep]; done) | (simp only [List.nil_append, List.cons_append, List.set_cons_zero, List.set_cons_succ, iv_set, bv_set, iv_rep, bv_rep]; rfl) | rfl))) | ((with_reducible apply Step.storeA (k := 0) (n := 4)); exact rfl; exact rfl; exact rfl; exact rfl; (focus (decide +kernel)); exact rfl; (focus (kernel_rfl)); exact rfl; (focus (first | (simp only [List.nil_append, List.cons_append, List.set_cons_zero, List.set_cons_succ, iv_set, bv_set, iv_rep, bv_rep]; done) | (simp only [List.nil_append, List.cons_append, List.set_cons_zero, List.set_cons_succ, iv_set, bv_set, iv_rep, bv_rep]; rfl) | rfl)))) | (with_reducible refine AWo.nil ?_) | ((with_reducible apply AW.seq)) | ((with_reducible apply Then.n)) | ((fail_if_success (with_reducible refine AW.atL (id := 9) ?_)); ((with_reducible apply AW.regL))) | ((with_reducible apply AW.block)) | ((with_reducible apply AW.skip)) | ((with_reducible apply AW.condT); exact rfl; (focus ((simp only [decide_eq_true_eq, decide_eq_false_iff_not, Bool.not_eq_true', Bool.not_eq_false', Bool.not_true, Bool.not_false]; first | assumption | omega))))))
      refine AW.joinQ (fun t' M' => ∃ r4, Row M' m.length 1 r4 (by8 ((S2 ++ [UInt8.ofNat (i * 16 + f), UInt8.ofNat t]) ++ be n 4)) ((S2 ++ [UInt8.ofNat (i * 16 + f), UInt8.ofNat t]) ++ be n 4).length ∧ (∃ N, M' = m ++ N) ∧
        All (fun i v => t' i = some v) [(3, r4), (11, pv), (12, .int .i64 (P.length : Nat)), (13, .int .i64 (k : Nat)), (23, u), (24, .int .i64 (l.length : Nat)), (25, .int .i64 (j : Nat))]) ?_ ?_
      · (repeat' (first | ((with_reducible refine Step.id ?_); first | ((with_reducible apply Step.move); exact rfl; exact rfl) | ((with_reducible apply Step.load); exact rfl; (focus (decide +kernel)); exact rfl; (focus (exact Rd.new rfl rfl))) | ((with_reducible apply Step.field0); exact rfl; (focus (decide +kernel)); exact rfl) | ((with_reducible apply Step.field (k := 1)); exact rfl; (focus (decide +kernel)); exact rfl) | ((with_reducible apply Step.addE); exact rfl; exact rfl; (focus (assumption)); (focus (omega)); exact rfl) | ((with_reducible apply Step.mulE); exact rfl; exact rfl; (focus (assumption)); (focus (omega)); exact rfl)) | ((with_reducible apply AW.drawT fit (T := (.step 0 (.step 1 (.step 2 (.step 3 (.step 4 (.step 5 (.step 6 (.step 7 (.step 8 (.step 9 (.step 10 (.step 13 (.both (.step 11 (.both (.step 12 (.step 14 (.step 15 (.step 16 (.step 17 .done))))) (.step 14 (.step 12 (.step 15 (.step 16 (.step 17 .done))))))) (.step 14 (.step 11 (.step 12 (.step 15 (.step 16 (.step 17 .done))))))))))))))))))))); (focus (decide +kernel))) | ((with_reducible apply AWt.step); exact rfl)))
        all_goals ((with_reducible apply Step.toB); exact rfl; exact un3; exact un5; exact rfl)
        all_goals (repeat' (first | ((with_reducible refine Step.id ?_); first | ((with_reducible apply Step.load); exact rfl; (focus (decide +kernel)); exact rfl; (focus (exact Rd.new rfl rfl))) | ((with_reducible apply Step.field (k := 2)); exact rfl; (focus (decide +kernel)); exact rfl)) | ((with_reducible apply AWt.step); exact rfl)))
        all_goals ((with_reducible apply Step.toB); exact rfl; exact un3; exact un5; exact rfl)
        all_goals (repeat' (first | ((with_reducible refine Step.id ?_); first | ((with_reducible apply Step.load); exact rfl; (focus (decide +kernel)); exact rfl; (focus (exact Rd.new rfl rfl))) | ((with_reducible apply Step.field (k := 3)); exact rfl; (focus (decide +kernel)); exact rfl) | ((with_reducible apply Step.buildS 1); exact rfl; exact rfl; exact (fun _ _ => bs22b); exact rfl; (focus (first | (simp only [List.nil_append, List.cons_append, List.set_cons_zero, List.set_cons_succ, iv_set, bv_set, iv_rep, bv_rep]; done) | (simp only [List.nil_append, List.cons_append, List.set_cons_zero, List.set_cons_succ, iv_set, bv_set, iv_rep, bv_rep]; rfl) | rfl)))) | ((with_reducible apply AWt.step); exact rfl) | refine AWt.both ?_ ?_))
        all_goals ((with_reducible apply Step.appRow2 (n := S2.length) (xl := 2) (b0 := m.length) (new := by8 [UInt8.ofNat (i * 16 + f), UInt8.ofNat t])); exact rfl; exact rfl; exact (hR2.old _); exact (Sl.mk (Nat.le_refl _)); exact (fun _ => RdL.new rfl rfl); exact el22; exact un22; exact rfl; exact rfl; exact rfl; (focus (omega)); exact rfl; (focus (simp only [List.length_append]; omega)))
        all_goals intro r3' M3 hr3 hml3 hk3 _
        all_goals have hM3 := pre_keep (m0 := m) ⟨N2 ++ _, (List.append_assoc _ _ _)⟩ hml3 fun j hj => hk3 j (by simp only [List.length_append]; omega) (NotOf.row hR2 hj)
        all_goals have hr3 := Row.app8 (b := [UInt8.ofNat (i * 16 + f), UInt8.ofNat t]) hr3
        all_goals have rn : ∀ T, Rd (M3 ++ T) ((m ++ N2).length + 0) 3 (.int .i64 (n : Nat)) := fun T => Rd.old T ⟨{ cells := [.int .i64 i, .int .i64 f, .int .i64 t, .int .i64 n] }, by rw [hk3 _ (by simp only [List.length_append]; simp) (hR2.far (by omega)), get_app]; rfl, rfl⟩
        all_goals clear hk3
        all_goals obtain ⟨N3, hN3⟩ := hM3
        all_goals have hlen3 : (S2 ++ [UInt8.ofNat (i * 16 + f), UInt8.ofNat t]).length ≤ 600000000 := by rw [List.length_append]; simp; omega
        all_goals generalize hS3 : S2 ++ [UInt8.ofNat (i * 16 + f), UInt8.ofNat t] = S3 at *
        all_goals rw [← List.append_nil M3]
        all_goals (repeat' (first | ((with_reducible refine Step.id ?_); ((with_reducible apply Step.load); exact rfl; (focus (decide +kernel)); exact rfl; (focus (exact rn _)))) | ((with_reducible apply AWt.step); exact rfl)))
        all_goals ((with_reducible apply Step.callX fit); exact rfl; exact Try.func104; exact rfl; exact rfl; exact (hnum _))
        all_goals rintro r4 M4 ⟨N4, hN4⟩ hr4
        all_goals obtain ⟨a4, v1, v2, v3⟩ := hr4.sl (by rw [hN4, hN3]; simp only [List.length_append]; omega)
        all_goals have v3' := fun T h => (v3 h).old T
        all_goals have hr34 : ∀ T, Row (M4 ++ T) m.length 1 r3' (by8 S3) S3.length := fun T => by rw [hN4, List.append_nil]; exact (hr3.old _).old _
        all_goals have hbl := be_len n 4
        all_goals (repeat' (((with_reducible apply AWt.step); exact rfl)))
        all_goals ((with_reducible apply Step.appRow2 (n := S3.length) (xl := (be n 4).length) (b0 := m.length) (new := by8 (be n 4))); exact rfl; exact rfl; exact (hr34 _); exact v1; exact (fun h => v3' _ h); exact el22; exact un22; (focus (rw [by8_len, Nat.mul_one])); exact (by8_all _); exact rfl; (focus (omega)); exact rfl; (focus (rw [hN4, hN3]; simp only [List.length_append]; omega)))
        all_goals intro r5 M5 hr5 hml5 hk5 _
        all_goals have hM5 := pre_keep (m0 := m) (M := M4 ++ []) ⟨N3 ++ N4, by rw [hN4, hN3]; simp only [List.append_nil, List.append_assoc]⟩ hml5 fun j hj => hk5 j (by rw [hN4, hN3]; simp only [List.length_append]; omega) (NotOf.row hr3 hj)
        all_goals have hr5 := Row.app8 hr5
        all_goals (repeat' (first | ((with_reducible refine Step.id ?_); ((with_reducible apply Step.assign); exact rfl; exact rfl)) | ((with_reducible apply AWt.step); exact rfl) | ((with_reducible apply AWt.done))))
        all_goals exact ⟨rfl, r5, hr5, hM5, (by repeat (first | exact trivial | (refine And.intro rfl ?_)))⟩
      · rintro t' M4 ⟨r4, hr4, ⟨N4, rfl⟩, hsl4⟩
        refine InBlk.n ?_
        refine Then.n ?_
        refine AW.weak (fr_all hsl4) ?_
        refine AW.rebase ?_
        (repeat (first | (with_reducible refine AWo.cons ?_) | ((with_reducible refine Step.id ?_); first | ((with_reducible apply Step.move); exact rfl; exact rfl) | ((with_reducible apply Step.add); exact rfl; exact rfl; (focus (omega)); exact rfl)) | (with_reducible refine AWo.nil ?_) | ((with_reducible apply Then.n)) | ((with_reducible apply AW.regL))))
        exact ⟨_, [(3, r4), (11, pv), (12, .int .i64 (P.length : Nat)), (13, .int .i64 (k : Nat)), (23, u), (24, .int .i64 (l.length : Nat)), (25, .int .i64 (j + 1 : Nat))], by omega, (by repeat (first | exact trivial | (refine And.intro rfl ?_))), j + 1, _, rfl, by omega, by rw [hnx, List.append_nil]; exact hr4, ⟨N4, by rw [List.append_nil]⟩, rfl⟩
    · obtain rfl : j = l.length := by omega
      rw [List.take_length] at hR2
      refine AW.rebase ?_
      (repeat (first | (with_reducible refine AWo.cons ?_) | ((with_reducible refine Step.id ?_); first | ((with_reducible apply Step.move); exact rfl; exact rfl) | ((with_reducible apply Step.add); exact rfl; exact rfl; (focus (omega)); exact rfl) | ((with_reducible apply Step.lss); exact rfl; exact rfl; exact rfl)) | (with_reducible refine AWo.nil ?_) | ((with_reducible apply AW.seq)) | ((with_reducible apply Then.n)) | ((with_reducible apply AW.regL)) | ((with_reducible apply AW.exit)) | ((with_reducible apply InBlk.n)) | ((with_reducible apply InBlk.hit)) | ((with_reducible apply Then.e)) | ((with_reducible apply AW.condF); exact rfl; (focus ((simp only [decide_eq_true_eq, decide_eq_false_iff_not, Bool.not_eq_true', Bool.not_eq_false', Bool.not_true, Bool.not_false]; first | assumption | omega))))))
      exact ⟨_, [(3, r'), (11, pv), (12, .int .i64 (P.length : Nat)), (13, .int .i64 (k + 1 : Nat))], by omega, (by repeat (first | exact trivial | (refine And.intro rfl ?_))), k + 1, _, rfl, by omega, by rw [hsn, List.append_nil]; exact hR2, ⟨N2, by rw [List.append_nil]⟩, rfl⟩
  · obtain rfl : k = P.length := by omega
    rw [List.take_length] at hR
    refine AW.rebase ?_
    (repeat (first | (with_reducible refine AWo.cons ?_) | ((with_reducible refine Step.id ?_); first | ((with_reducible apply Step.move); exact rfl; exact rfl) | ((with_reducible apply Step.assign); exact rfl; exact rfl) | ((with_reducible apply Step.lss); exact rfl; exact rfl; exact rfl)) | (with_reducible refine AWo.nil ?_) | ((with_reducible apply AW.seq)) | ((with_reducible apply Then.n)) | ((with_reducible apply AW.regL)) | ((with_reducible apply AW.exit)) | ((with_reducible apply InBlk.hit)) | ((with_reducible apply Then.e)) | ((with_reducible apply AW.condF); exact rfl; (focus ((simp only [decide_eq_true_eq, decide_eq_false_iff_not, Bool.not_eq_true', Bool.not_eq_false', Bool.not_true, Bool.not_false]; first | assumption | omega))))))
    (refine AW.ret ?_; (repeat (first | refine Then.r ?_ | refine InBlk.r ?_)))
    exact ⟨_, rfl, N, by rw [List.append_nil], by rw [List.append_nil]; exact hR.byts (by rw [List.length_append]; omega)⟩
end Go.Proofs.Ytabdnepfcohncaa.Abs
namespace Go.Proofs.Ytabdnepfcohncaa.Abs
set_option linter.unusedSimpArgs false
set_option linter.unusedVariables false
open Go.RowKit
open Go.Proofs.Ytabdnepfcohncaa.Sim
open Go.Proofs
/-- A book that posts have made. -/
inductive Built : Bk → Prop
  | new : Built Bk.new
  | post {B : Bk} {l : List Tr} : Built B → (postF B l).2.2 = 0 → Built (postF B l).1
theorem postF_zero {B : Bk} {l : List Tr} (h : (postF B l).2.2 = 0) : postB l = true ∧ (postF B l).1.P = B.P ++ [l] := by
  revert h
  unfold postF
  split
  · intro h; exact absurd h (show ¬ ((2 : Int) = 0) by decide)
  · rename_i hp
    split
    · intro h; exact absurd h (show ¬ ((11 : Int) = 0) by decide)
    · split
      · intro h; exact absurd h (show ¬ ((5 : Int) = 0) by decide)
      · intro _; exact ⟨by simpa using hp, rfl⟩
end Go.Proofs.Ytabdnepfcohncaa.Abs
namespace Go.Proofs.Ytabdnepfcohncaa.Abs
set_option linter.unusedSimpArgs false
set_option linter.unusedVariables false
open Go.RowKit
open Go.Proofs.Ytabdnepfcohncaa.Sim
open Go.ChangeShapes Go.WideShapes Go.Deep
/-- An argument with the cells that it shows. -/
abbrev AR := Value × List Value
def mkP : AR → Option Sim.Place
  | (.slice (some a) n cap, _) => some ⟨a.block, a.off, cap - n⟩
  | _ => none
section
variable {H : Type} {enc : TypeId × Value → H} {P : Program} {w : World} {base : Nat} {spare : Nat → Bool} {held : Bool}
theorem ok_slice {r : Reach} {b0 : Nat} {T e : TypeId} {a : Option Addr} {n c : Nat} (ht : P.underlying T = some (.slice e)) (h : Value.okWide P w r b0 T (.slice a n c)) : (a = none ∧ n = 0 ∧ c = 0) ∨ ∃ b o, a = some ⟨b, o, none⟩ ∧ n ≤ c ∧ b < w.heap.size := by
  simp only [Value.okWide, ht, Cell.okWide, Cell.ok] at h
  cases a with
  | none =>
    cases n <;> cases c <;> simp_all
  | some x =>
    obtain ⟨h1, _, h3⟩ := h
    obtain ⟨_, hs, row, cells, hsh, _⟩ := h3
    obtain ⟨b, o, s⟩ := x
    simp only at hs
    subst hs
    refine .inr ⟨b, o, rfl, h1, ?_⟩
    simp only [World.shape?] at hsh
    rcases Nat.lt_or_ge b w.heap.size with hlt | hge
    · exact hlt
    · rw [Array.getElem?_eq_none hge] at hsh; cases hsh
theorem open_slice_fields {t e : TypeId} {fs : Array Field} {fuel : Nat} {cs : List Value} {x : DataW H × List MemPlace} (ht : P.underlying t = some (.slice e)) (he : P.underlying e = some (.struct fs))
    (hone : oneCellFields P fs = true) (hC : P.cellsOf e = fs.size) (h : DataW.trod enc P w base spare held fuel t cs = some x) :
    (cs = [.slice none 0 0] ∧ x = (.nil, [])) ∨
    ∃ (a : Addr) (len cap m : Nat) (D : Nat → DataW H) (Pl : Nat → List MemPlace), cs = [.slice (some a) len cap] ∧ base ≤ a.block ∧ len ≤ cap ∧ cap ≤ maxLen ∧ m = (if spare a.block then cap else len) ∧
      x = (.slice ((List.range len).map D) ((List.range (m - len)).map fun j => D (len + j)), MemPlace.row a (m * fs.size) ++ (List.range m).flatMap Pl) ∧
      ∀ i, i < m → ∃ (ys : List (DataW H × List MemPlace)) (n : Nat), D i = .agg (ys.map (·.1)) ∧ Pl i = ys.flatMap (·.2) ∧ ys.length = fs.size ∧
        ∀ (j : Nat) (f : Field), fs[j]? = some f → ∃ (v : Value) (y : DataW H × List MemPlace), w.cell? (a.add (i * fs.size + j)) = some v ∧ ys[j]? = some y ∧ DataW.trod enc P w base spare held n f.type [v] = some y := by
  rcases open_slice ht h with h0 | ⟨a, len, cap, m, n, D, Pl, hcs, hb, hl, hm, hmm, hx, hi⟩
  · exact .inl h0
  · refine .inr ⟨a, len, cap, m, D, Pl, hcs, hb, hl, hm, hmm, by rw [hC] at hx; exact hx, fun i him => ?_⟩
    obtain ⟨cs', hc, ht'⟩ := hi i him
    rw [hC] at hc
    obtain ⟨ys, n', hn', hy, hlen, hyl, hf⟩ := DataW.trod_struct he ht'
    obtain ⟨_, hcl, hat⟩ := World.cells?_some hc
    simp only [Prod.mk.injEq] at hy
    refine ⟨ys, n', hy.1, hy.2, hyl, fun j f hj => ?_⟩
    obtain ⟨ho, hk⟩ := hone_of hone j f hj
    have hjl : j < fs.size := (Array.getElem?_eq_some_iff.1 hj).1
    have hcell := hat j hjl
    have hv : cs'[j]? = some (cs'[j]'(by omega)) := List.getElem?_eq_getElem (by omega)
    have h1 := hf j f hj
    rw [ho, hk] at h1
    have hone' : (cs'.drop j).take 1 = [cs'[j]'(by omega)] := by
      rw [List.drop_eq_getElem_cons (by omega)]
      rfl
    rw [hone'] at h1
    have hys : ys[j]? = some (ys[j]'(by omega)) := List.getElem?_eq_getElem (by omega)
    refine ⟨_, _, ?_, hys, h1.trans hys⟩
    rw [← Go.Deep.add_add, hcell, hv]
end
end Go.Proofs.Ytabdnepfcohncaa.Abs
namespace Go.Proofs.Ytabdnepfcohncaa.Abs
set_option linter.unusedSimpArgs false
set_option linter.unusedVariables false
open Go.RowKit
open Go.Proofs.Ytabdnepfcohncaa.Sim
open Go.ChangeShapes Go.WideShapes Go.Deep
def plN (bs : List AR) : Pl := fun i => (bs[i]?).bind mkP
def mkV2 (i : Nat) : Value → Value
  | .slice (some ⟨_, _, some k⟩) _ _ => .slice (some ⟨i, 0, some k⟩) 0 0
  | .slice (some ⟨_, _, none⟩) n _ => .slice (some ⟨i, 0, none⟩) n n
  | v => v
def mkB2 : AR → Option Blk
  | (.slice (some _) _ (_ + 1), c) => some { cells := c, kind := .ro }
  | _ => none
/-- A slice of the input, with its cells as the abstract memory has them; or what is no block. -/
def OkB (W : World) (R : Pl) (a : AR) : Prop := g0 a.1 = true ∨ (∃ x, a.1 = .slice (some x) 0 0) ∨
  ∃ b o n cap, a.1 = .slice (some ⟨b, o, none⟩) n (cap + 1) ∧ n ≤ cap + 1 ∧ b < W.heap.size ∧ ∀ j x, a.2[j]? = some x → ∃ x', W.cell? ⟨b, o + j, none⟩ = some x' ∧ Rel R x x'
theorem relN {W : World} {R : Pl} {bs : List AR} {i : Nat} {a : AR} (hi : bs[i]? = some a) (h : OkB W R a) : Rel (plN bs) (mkV2 i a.1) a.1 := by
  obtain ⟨v, c⟩ := a
  rcases h with h1 | ⟨⟨b, o, sp⟩, h1⟩ | ⟨b, o, n, cap, h1, h2, h3, h4⟩
  · simp only at h1 ⊢
    cases v with
    | slice x n cap => cases x with
      | none => exact g0_rel h1
      | some x => simp [g0] at h1
    | _ => exact g0_rel h1
  · simp only at h1 ⊢
    subst h1
    cases sp with
    | none =>
      have := Rel.slice (R := plN bs) i 0 0 0 ⟨b, o, 0 - 0⟩ (by simp [plN, hi, mkP]) (Nat.le_refl _)
      simpa [mkV2] using this
    | some k =>
      have := Rel.sliceSpot (R := plN bs) i 0 k ⟨b, o, 0 - 0⟩ (by simp [plN, hi, mkP])
      simpa [mkV2] using this
  · simp only at h1 ⊢
    subst h1
    have := Rel.slice (R := plN bs) i 0 n n ⟨b, o, cap + 1 - n⟩ (by simp [plN, hi, mkP]) (Nat.le_refl _)
    rw [show n + (cap + 1 - n) = cap + 1 by omega] at this
    simpa [mkV2] using this
def mkVs2 : Nat → List AR → List Value
  | _, [] => []
  | i, a :: l => mkV2 i a.1 :: mkVs2 (i + 1) l
theorem mkVs2_get : ∀ (l : List AR) (i k : Nat), (mkVs2 i l)[k]? = (l[k]?).map fun a => mkV2 (i + k) a.1
  | [], i, k => by simp [mkVs2]
  | a :: l, i, 0 => by simp [mkVs2]
  | a :: l, i, k + 1 => by simp only [mkVs2, List.getElem?_cons_succ, mkVs2_get l (i + 1) k]; congr 1; funext x; congr 1; omega
theorem mkVs2_len : ∀ (l : List AR) (i : Nat), (mkVs2 i l).length = l.length
  | [], _ => rfl
  | a :: l, i => by simp [mkVs2, mkVs2_len l (i + 1)]
theorem mkB2_none {W : World} {R : Pl} {a : AR} {b : Blk} (h : OkB W R a) (hb : mkB2 a = some b) : ∃ bb o n cap, a.1 = .slice (some ⟨bb, o, none⟩) n (cap + 1) ∧ b = { cells := a.2, kind := .ro } ∧ bb < W.heap.size ∧ ∀ j x, a.2[j]? = some x → ∃ x', W.cell? ⟨bb, o + j, none⟩ = some x' ∧ Rel R x x' := by
  obtain ⟨v, c⟩ := a
  rcases h with h1 | ⟨x, h1⟩ | ⟨bb, o, n, cap, h1, h2, h3, h4⟩
  · simp only at h1
    cases v with
    | slice x n cap => cases x with
      | none => simp [mkB2] at hb
      | some x => simp [g0] at h1
    | _ => simp [mkB2] at hb
  · simp only at h1
    subst h1
    simp [mkB2] at hb
  · simp only at h1
    subst h1
    simp only [mkB2, Option.some.injEq] at hb
    exact ⟨bb, o, n, cap, rfl, hb.symm, h3, h4⟩
theorem top_callN {P : Program} {f : FuncId} {W : World} (bs : List AR) (na : Nat) (h : ∀ a ∈ bs, OkB W (plN bs) a) (hc : ACall P f ((mkVs2 0 bs).take na).toArray (bs.map mkB2) (Ret (.bool true) (bs.map mkB2))) :
    Calls P f ((bs.take na).map (·.1)).toArray W fun e w' => e = .returned (.bool true) ∧ Below W.heap.size W w' := by
  have hm : MRep W.heap.size (plN bs) (bs.map mkB2) W := by
    refine ⟨fun i hi => ?_, fun i b hi => ?_, fun i j b c p q hi hj hb _ _ _ _ => ?_⟩
    · simp only [List.length_map] at hi
      simp [plN, List.getElem?_eq_none hi]
    · rw [List.getElem?_map] at hi
      cases ha : bs[i]? with
      | none => rw [ha] at hi; cases hi
      | some a =>
        rw [ha] at hi
        simp only [Option.map_some, Option.some.injEq] at hi
        obtain ⟨bb, o, n, cap, h1, rfl, h3, h4⟩ := mkB2_none (h _ (List.mem_of_getElem? ha)) hi
        obtain ⟨v, c⟩ := a
        simp only at h1 h4
        subst h1
        refine ⟨⟨bb, o, cap + 1 - n⟩, by simp [plN, ha, mkP], h3, ?_⟩
        exact ⟨fun e => by simp at e, fun j x hj => h4 j x hj⟩
    · rw [List.getElem?_map] at hi
      cases ha : bs[i]? with
      | none => rw [ha] at hi; cases hi
      | some a =>
        rw [ha] at hi
        simp only [Option.map_some, Option.some.injEq] at hi
        obtain ⟨bb, o, n, cap, h1, rfl, _⟩ := mkB2_none (h _ (List.mem_of_getElem? ha)) hi
        cases hb
  have hargs : Rels (plN bs) ((mkVs2 0 bs).take na).toArray ((bs.take na).map (·.1)).toArray := by
    refine ⟨by simp [mkVs2_len], fun i hi => ?_⟩
    simp only [List.size_toArray, List.length_take, mkVs2_len] at hi
    have hib : i < bs.length := by omega
    have ha : bs[i]? = some bs[i] := List.getElem?_eq_getElem hib
    have e1 : ((mkVs2 0 bs).take na).toArray.getD i undef = mkV2 i bs[i].1 := by
      simp [mkVs2_get, ha, List.getElem?_take, show i < na by omega]
    have e2 : ((bs.take na).map (·.1)).toArray.getD i undef = bs[i].1 := by simp [List.getElem?_take, show i < na by omega, ha]
    rw [e1, e2]
    exact relN ha (h _ (List.mem_of_getElem? ha))
  refine (hc W.heap.size (plN bs) W _ (Nat.le_refl _) hm hargs).mono ?_
  rintro e w' ⟨v, v', R', m', rfl, k1, k2, rfl, rfl⟩
  cases k1
  exact ⟨rfl, k2.below hm (Nat.le_refl _)⟩
section
variable {H : Type} {enc : TypeId × Value → H} {P : Program} {w : World} {base : Nat} {held : Bool}
theorem cell_some {a : Addr} {v : Value} (h : w.cell? a = some v) : a.spot = none ∧ a.block < w.heap.size := by
  unfold World.cell? at h
  cases hb : w.heap[a.block]? with
  | none => rw [hb] at h; cases h
  | some o =>
    refine ⟨?_, (Array.getElem?_eq_some_iff.1 hb).1⟩
    rw [hb] at h
    cases o with
    | cells c ty fz =>
      simp only at h
      split at h
      · cases h
      · rename_i hs
        cases hsp : a.spot with
        | none => rfl
        | some k => rw [hsp] at hs; simp at hs
    | _ => cases h
end
end Go.Proofs.Ytabdnepfcohncaa.Abs
namespace Go.Proofs.Ytabdnepfcohncaa.Abs
set_option linter.unusedSimpArgs false
set_option linter.unusedVariables false
open Go.RowKit
open Go.Proofs.Ytabdnepfcohncaa.Sim
open Go.Proofs
open Go.ChangeShapes Go.WideShapes Go.Deep
section
variable {H : Type} {enc : TypeId × Value → H} {P : Program} {w : World} {base : Nat} {held : Bool}
/-- A row of transfers that the input shows, wherever it stands. -/
theorem trs_sl {T e : TypeId} {fs : Array Field} {fuel : Nat} {v : Value} {d : DataW H × List MemPlace} (ht : P.underlying T = some (.slice e)) (he : P.underlying e = some (.struct fs)) (hone : oneCellFields P fs = true) (hC : P.cellsOf e = fs.size) (hsz : fs.size = 4)
    (hI : ∀ j f, j < 4 → fs[j]? = some f → P.underlying f.type = some (.int .i64)) (h : DataW.trod enc P w base (fun _ => true) held fuel T [v] = some d) :
    ∃ l : List Tr, l.length ≤ maxLen ∧ (∀ R, OkB w R (v, tcs l)) ∧ ∀ (bs : List AR) (i : Nat), bs[i]? = some (v, tcs l) → Trs (bs.map mkB2) (mkV2 i v) l := by
  rcases open_slice_fields ht he hone hC h with ⟨hcs, _⟩ | ⟨x, n, c, m, D, Pl, hcs, _, hl, hm, hmm, _, hrow⟩
  · obtain rfl : v = .slice none 0 0 := by simpa using hcs
    exact ⟨[], Nat.zero_le _, fun R => .inl rfl, fun bs i hi => ⟨i, 0, .inl ⟨rfl, rfl⟩, by simp; exact (List.getElem?_eq_some_iff.1 hi).1, fun k hk => by simp at hk⟩⟩
  · obtain rfl : v = .slice (some x) n c := by simpa using hcs
    rw [if_pos rfl] at hmm
    have key : ∀ k : Nat, ∃ q : Tr, k < n → ∀ j : Nat, j < 4 → ∃ z, q.c[j]? = some (.int .i64 z) ∧ w.cell? (x.add (k * 4 + j)) = some (.int .i64 z) := fun k => by
      by_cases hk : k < n
      · obtain ⟨ys, nn, _, _, _, hf⟩ := hrow k (by omega)
        rw [hsz] at hf
        have fi : ∀ j, j < 4 → ∃ z : Int, w.cell? (x.add (k * 4 + j)) = some (.int .i64 z) := fun j hj => by
          have hfj : fs[j]? = some (fs[j]'(by omega)) := Array.getElem?_eq_getElem (by omega)
          obtain ⟨v, y, h1, _, h3⟩ := hf j _ hfj
          obtain ⟨z, hz, _⟩ := DataW.trod_int (hI j _ hj hfj) h3
          simp at hz
          subst hz
          exact ⟨z, h1⟩
        obtain ⟨z0, g0'⟩ := fi 0 (by omega)
        obtain ⟨z1, g1'⟩ := fi 1 (by omega)
        obtain ⟨z2, g2'⟩ := fi 2 (by omega)
        obtain ⟨z3, g3'⟩ := fi 3 (by omega)
        refine ⟨⟨z0, z1, z2, z3⟩, fun _ j hj => ?_⟩
        rcases (show j = 0 ∨ j = 1 ∨ j = 2 ∨ j = 3 by omega) with rfl | rfl | rfl | rfl
        · exact ⟨_, rfl, g0'⟩
        · exact ⟨_, rfl, g1'⟩
        · exact ⟨_, rfl, g2'⟩
        · exact ⟨_, rfl, g3'⟩
      · exact ⟨default, fun h => absurd h hk⟩
    obtain ⟨G, hG⟩ := Classical.axiomOfChoice key
    have hlen : ((List.range n).map G).length = n := by simp
    have hgd : ∀ k, k < n → ((List.range n).map G).getD k default = G k := fun k hk => by simp [hk]
    have hcell : ∀ j v, (tcs ((List.range n).map G))[j]? = some v → j < n * 4 ∧ w.cell? (x.add j) = some v ∧ ∃ z, v = .int .i64 z := fun j v hj => by
      have hj1 := (List.getElem?_eq_some_iff.1 hj).1
      rw [tcs_len, hlen] at hj1
      obtain ⟨z, q1, q2⟩ := hG (j / 4) (by omega) (j % 4) (by omega)
      have := tcs_get ((List.range n).map G) (j / 4) (by rw [hlen]; omega) (j % 4) (.int .i64 z) (by rw [hgd _ (by omega)]; exact q1)
      rw [show j / 4 * 4 + j % 4 = j by omega] at this q2
      rw [this] at hj
      injection hj with hj
      subst hj
      exact ⟨hj1, q2, z, rfl⟩
    cases c with
    | zero =>
      obtain rfl : n = 0 := by omega
      refine ⟨[], Nat.zero_le _, fun R => .inr (.inl ⟨x, rfl⟩), fun bs i hi => ?_⟩
      have hlt : i < (bs.map mkB2).length := by simp; exact (List.getElem?_eq_some_iff.1 hi).1
      obtain ⟨b, o, sp⟩ := x
      cases sp with
      | none => exact ⟨i, 0, Sl.mk (Nat.le_refl _), hlt, fun k hk => by simp at hk⟩
      | some k => exact ⟨i, 0, .inr (.inr ⟨rfl, 0, k, rfl⟩), hlt, fun k hk => by simp at hk⟩
    | succ c =>
      obtain ⟨b, o, sp⟩ := x
      have h0 : sp = none ∧ b < w.heap.size := by
        obtain ⟨ys, nn, _, _, _, hf⟩ := hrow 0 (by omega)
        have hfj : fs[0]? = some (fs[0]'(by omega)) := Array.getElem?_eq_getElem (by omega)
        obtain ⟨v, y, h1, _, h3⟩ := hf 0 _ hfj
        have := cell_some h1
        first | exact this | (simpa [Addr.add] using this) | (cases sp <;> simp_all [Addr.add])
      obtain ⟨rfl, hb⟩ := h0
      refine ⟨(List.range n).map G, by rw [hlen]; omega, fun R => .inr (.inr ⟨b, o, n, c, rfl, hl, hb, fun j x hj => ?_⟩), fun bs i hi => ?_⟩
      · obtain ⟨q1, q2, z, rfl⟩ := hcell j x hj
        rw [Addr.add_lit] at q2
        exact ⟨_, q2, .int _ _⟩
      · have hM : (bs.map mkB2)[i]? = some (some { cells := tcs ((List.range n).map G), kind := .ro }) := by rw [List.getElem?_map, hi]; rfl
        have hlt := (List.getElem?_eq_some_iff.1 hM).1
        refine ⟨i, 0, by rw [hlen]; exact Sl.mk (Nat.le_refl n), hlt, fun k hk => ⟨_, hM, fun j v hj => ?_⟩⟩
        rw [Nat.zero_add]
        exact tcs_get _ k hk j v hj
end
end Go.Proofs.Ytabdnepfcohncaa.Abs
namespace Go.Proofs.Ytabdnepfcohncaa.Abs
set_option linter.unusedSimpArgs false
set_option linter.unusedVariables false
open Go.RowKit
open Go.Proofs.Ytabdnepfcohncaa.Sim
open Go.Proofs
open Go.ChangeShapes Go.WideShapes Go.Deep
structure Deed where
  kd : Int
  who : Int
  n : Int
  m : Int
  l : List Tr
instance : Inhabited Deed := ⟨⟨0, 0, 0, 0, []⟩⟩
def Deed.cells (x : Deed) (w : Value) : List Value := [.int .i64 x.kd, .int .i64 x.who, .int .i64 x.n, .int .i64 x.m, w]
/-- A row of deeds. -/
def Deeds (M : AM) (v : Value) (ds : List Deed) : Prop := ∃ a o, Sl v a o ds.length ∧ a < M.length ∧ ∀ k, k < ds.length → ∃ w, RdL M a (o + k * 5) ((ds.getD k default).cells w) ∧ Trs M w (ds.getD k default).l
/-- The cells of n deeds; the After of job k lies in block e0 + k. -/
def deedCs (F : Nat → Deed) (s : Nat → Value) (e0 n : Nat) : List Value := (List.range n).flatMap fun k => (F k).cells (mkV2 (e0 + k) (s k))
theorem deedCs_succ (F : Nat → Deed) (s : Nat → Value) (e0 n : Nat) : deedCs F s e0 (n + 1) = deedCs F s e0 n ++ (F n).cells (mkV2 (e0 + n) (s n)) := by
  simp [deedCs, List.range_succ, List.flatMap_append]
theorem deedCs_len (F : Nat → Deed) (s : Nat → Value) (e0 : Nat) : ∀ n, (deedCs F s e0 n).length = n * 5
  | 0 => rfl
  | n + 1 => by rw [deedCs_succ, List.length_append, deedCs_len F s e0 n]; simp [Deed.cells]; omega
theorem deedCs_get (F : Nat → Deed) (s : Nat → Value) (e0 : Nat) : ∀ n k, k < n → ∀ q v, ((F k).cells (mkV2 (e0 + k) (s k)))[q]? = some v → (deedCs F s e0 n)[k * 5 + q]? = some v
  | 0, k, h, _, _, _ => by omega
  | n + 1, k, h, q, v, hq => by
    have hq4 : q < 5 := by have := (List.getElem?_eq_some_iff.1 hq).1; simpa [Deed.cells] using this
    rw [deedCs_succ]
    rcases Nat.lt_succ_iff_lt_or_eq.1 h with h' | h'
    · rw [List.getElem?_append_left (by rw [deedCs_len]; omega)]
      exact deedCs_get F s e0 n k h' q v hq
    · subst h'
      rw [List.getElem?_append_right (by rw [deedCs_len]; omega), deedCs_len, Nat.add_sub_cancel_left]
      exact hq
theorem cells5 (x : Deed) (w : Value) (q : Nat) (v : Value) (h : (x.cells w)[q]? = some v) : q = 0 ∧ v = .int .i64 x.kd ∨ q = 1 ∧ v = .int .i64 x.who ∨ q = 2 ∧ v = .int .i64 x.n ∨ q = 3 ∧ v = .int .i64 x.m ∨ q = 4 ∧ v = w := by
  match q, h with
  | 0, h => simp [Deed.cells] at h; exact .inl ⟨rfl, h.symm⟩
  | 1, h => simp [Deed.cells] at h; exact .inr (.inl ⟨rfl, h.symm⟩)
  | 2, h => simp [Deed.cells] at h; exact .inr (.inr (.inl ⟨rfl, h.symm⟩))
  | 3, h => simp [Deed.cells] at h; exact .inr (.inr (.inr (.inl ⟨rfl, h.symm⟩)))
  | 4, h => simp [Deed.cells] at h; exact .inr (.inr (.inr (.inr ⟨rfl, h.symm⟩)))
  | q + 5, h => simp [Deed.cells] at h
section
variable {H : Type} {enc : TypeId × Value → H} {P : Program} {w : World} {base : Nat} {held : Bool}
theorem arg_deeds {r : Reach} {b0 : Nat} {T e tS tI : TypeId} {fs gs : Array Field} {a : Option Addr} {n c : Nat} {d : DataW H} {p : List MemPlace} (ht : P.underlying T = some (.slice e)) (he : P.underlying e = some (.struct fs)) (hone : oneCellFields P fs = true) (hC : P.cellsOf e = fs.size) (hsz : fs.size = 5)
    (hI : ∀ j f, j < 4 → fs[j]? = some f → P.underlying f.type = some (.int .i64)) (hS : ∀ f, fs[4]? = some f → f.type = tS) (hS1 : P.underlying tS = some (.slice tI)) (hS2 : P.underlying tI = some (.struct gs)) (hS3 : oneCellFields P gs = true) (hS4 : P.cellsOf tI = gs.size) (hS5 : gs.size = 4) (hS6 : ∀ j f, j < 4 → gs[j]? = some f → P.underlying f.type = some (.int .i64))
    (hok : Value.okWide P w r b0 T (.slice a n c)) (h : DataW.Trod enc P w base (fun _ => true) held T (.slice a n c) d p) :
    ∃ (F : Nat → Deed) (s : Nat → Value), n ≤ maxLen ∧ (∀ k, (F k).l.length ≤ maxLen) ∧ (∀ R k, OkB w R (s k, tcs (F k).l)) ∧
      (∀ (bs : List AR) (e0 : Nat), (∀ k, k < n → bs[e0 + k]? = some (s k, tcs (F k).l)) → OkB w (plN bs) (.slice a n c, deedCs F s e0 n)) ∧
      (∀ (bs : List AR) (i e0 : Nat), bs[i]? = some (.slice a n c, deedCs F s e0 n) → (∀ k, k < n → bs[e0 + k]? = some (s k, tcs (F k).l)) → Deeds (bs.map mkB2) (mkV2 i (.slice a n c)) ((List.range n).map F)) := by
  obtain ⟨fuel, h⟩ := h
  rcases ok_slice ht hok with ⟨rfl, rfl, rfl⟩ | ⟨b, o, rfl, hle, hlt⟩
  · exact ⟨fun _ => default, fun _ => .slice none 0 0, by unfold maxLen; omega, fun _ => by show ([] : List Tr).length ≤ _; simp, fun R k => .inl rfl, fun bs e0 _ => .inl rfl, fun bs i e0 hi _ =>
      ⟨i, 0, .inl ⟨rfl, rfl⟩, by simp; exact (List.getElem?_eq_some_iff.1 hi).1, fun k hk => by simp at hk⟩⟩
  · rcases open_slice_fields ht he hone hC h with ⟨hcs, _⟩ | ⟨x, l, cap, m, D, Pl, hcs, _, hl, hm, hmm, _, hrow⟩
    · simp [Value.cells] at hcs
    · simp [Value.cells] at hcs
      obtain ⟨rfl, rfl, rfl⟩ := hcs
      rw [if_pos rfl] at hmm
      have key : ∀ k : Nat, ∃ q : Deed × Value, q.1.l.length ≤ maxLen ∧ (∀ R, OkB w R (q.2, tcs q.1.l)) ∧ (∀ (bs : List AR) (i : Nat), bs[i]? = some (q.2, tcs q.1.l) → Trs (bs.map mkB2) (mkV2 i q.2) q.1.l) ∧
          (k < n → w.cell? ⟨b, o + (k * 5 + 0), none⟩ = some (.int .i64 q.1.kd) ∧ w.cell? ⟨b, o + (k * 5 + 1), none⟩ = some (.int .i64 q.1.who) ∧ w.cell? ⟨b, o + (k * 5 + 2), none⟩ = some (.int .i64 q.1.n) ∧ w.cell? ⟨b, o + (k * 5 + 3), none⟩ = some (.int .i64 q.1.m) ∧ w.cell? ⟨b, o + (k * 5 + 4), none⟩ = some q.2) := fun k => by
        by_cases hk : k < n
        · obtain ⟨ys, nn, _, _, _, hf⟩ := hrow k (by omega)
          rw [hsz] at hf
          have fi : ∀ j, j < 4 → ∃ z : Int, w.cell? ⟨b, o + (k * 5 + j), none⟩ = some (.int .i64 z) := fun j hj => by
            have hfj : fs[j]? = some (fs[j]'(by omega)) := Array.getElem?_eq_getElem (by omega)
            obtain ⟨v, y, h1, _, h3⟩ := hf j _ hfj
            obtain ⟨z, hz, _⟩ := DataW.trod_int (hI j _ hj hfj) h3
            simp at hz
            subst hz
            rw [Addr.add_lit] at h1
            exact ⟨z, h1⟩
          obtain ⟨z0, g0'⟩ := fi 0 (by omega)
          obtain ⟨z1, g1'⟩ := fi 1 (by omega)
          obtain ⟨z2, g2'⟩ := fi 2 (by omega)
          obtain ⟨z3, g3'⟩ := fi 3 (by omega)
          have hf3 : fs[4]? = some (fs[4]'(by omega)) := Array.getElem?_eq_getElem (by omega)
          obtain ⟨v, y, h1, _, h3⟩ := hf 4 _ hf3
          rw [hS _ hf3] at h3
          rw [Addr.add_lit] at h1
          obtain ⟨l, l1, l2, l3⟩ := trs_sl hS1 hS2 hS3 hS4 hS5 hS6 h3
          exact ⟨(⟨z0, z1, z2, z3, l⟩, v), l1, l2, l3, fun _ => ⟨g0', g1', g2', g3', h1⟩⟩
        · exact ⟨(default, .slice none 0 0), by show ([] : List Tr).length ≤ _; simp, fun R => .inl rfl, fun bs i hi => ⟨i, 0, .inl ⟨rfl, rfl⟩, by simp; exact (List.getElem?_eq_some_iff.1 hi).1, fun k hk => by simp [default, instInhabitedDeed] at hk⟩, fun h => absurd h hk⟩
      obtain ⟨G, hG⟩ := Classical.axiomOfChoice key
      refine ⟨fun k => (G k).1, fun k => (G k).2, by omega, fun k => (hG k).1, fun R k => (hG k).2.1 R, fun bs e0 hbs => ?_, fun bs i e0 hi hbs => ?_⟩
      · cases c with
        | zero =>
          obtain rfl : n = 0 := by omega
          exact .inr (.inl ⟨⟨b, o, none⟩, rfl⟩)
        | succ c =>
          refine .inr (.inr ⟨b, o, n, c, rfl, hle, hlt, fun j x hj => ?_⟩)
          have hjl := (List.getElem?_eq_some_iff.1 hj).1
          simp only [deedCs_len] at hjl
          have hk : j / 5 < n := by omega
          have hj5 : j % 5 < 5 := Nat.mod_lt _ (by omega)
          have e : j = j / 5 * 5 + j % 5 := by omega
          generalize hkk : j / 5 = k at *
          generalize hqq : j % 5 = q at *
          subst e
          have hcells : ∃ v, ((G k).1.cells (mkV2 (e0 + k) (G k).2))[q]? = some v := ⟨_, List.getElem?_eq_getElem (by simpa [Deed.cells] using hj5)⟩
          obtain ⟨v, hv⟩ := hcells
          have hget := deedCs_get (fun k => (G k).1) (fun k => (G k).2) e0 n k hk q v hv
          simp only at hj
          rw [hget] at hj
          injection hj with hj
          subst hj
          obtain ⟨c0, c1, c2, c3, c4⟩ := (hG k).2.2.2 hk
          rcases cells5 _ _ _ _ hv with ⟨rfl, rfl⟩ | ⟨rfl, rfl⟩ | ⟨rfl, rfl⟩ | ⟨rfl, rfl⟩ | ⟨rfl, rfl⟩
          · exact ⟨_, c0, .int _ _⟩
          · exact ⟨_, c1, .int _ _⟩
          · exact ⟨_, c2, .int _ _⟩
          · exact ⟨_, c3, .int _ _⟩
          · exact ⟨_, c4, relN (hbs k hk) ((hG k).2.1 (fun _ => none))⟩
      · have hlen : i < (bs.map mkB2).length := by simp; exact (List.getElem?_eq_some_iff.1 hi).1
        refine ⟨i, 0, by simpa [mkV2] using Sl.mk (Nat.le_refl n), hlen, fun k hk => ?_⟩
        have hk' : k < n := by simpa using hk
        have eg : ((List.range n).map fun k => (G k).1).getD k default = (G k).1 := by simp [hk']
        rw [eg]
        refine ⟨mkV2 (e0 + k) (G k).2, ?_, (hG k).2.2.1 bs (e0 + k) (hbs k hk')⟩
        cases c with
        | zero => omega
        | succ c =>
          refine ⟨{ cells := deedCs (fun k => (G k).1) (fun k => (G k).2) e0 n, kind := .ro }, by rw [List.getElem?_map, hi]; rfl, fun j v hj => ?_⟩
          rw [Nat.zero_add]
          exact deedCs_get _ _ e0 n k hk' j v hj
end
end Go.Proofs.Ytabdnepfcohncaa.Abs
namespace Go.Proofs.Ytabdnepfcohncaa.Abs
set_option linter.unusedSimpArgs false
set_option linter.unusedVariables false
open Go.RowKit
open Go.Proofs.Ytabdnepfcohncaa.Sim
open Go.Proofs
theorem BytsAt.of {m : AM} {v : Value} {i : Nat} {l : List UInt8} (hs : Sl v i 0 l.length) (hr : 0 < l.length → RdL m i 0 (by8 l)) : BytsAt m v i 0 l := ⟨hs, fun k hk => by
  obtain ⟨b, q1, q2⟩ := hr (by omega)
  refine ⟨b, q1, q2 k _ ?_⟩
  rw [by8_get hk, List.getD_eq_getElem?_getD, List.getElem?_eq_getElem hk]
  rfl⟩
end Go.Proofs.Ytabdnepfcohncaa.Abs
namespace Go.Proofs.Ytabdnepfcohncaa.Abs
set_option linter.unusedSimpArgs false
set_option linter.unusedVariables false
open Go.RowKit
open Go.Proofs.Ytabdnepfcohncaa.Sim
open Go.Proofs
theorem Sl.one {v : Value} {a o n : Nat} (h : Sl v a o n) : v.oneCell' = true ∧ v.cells = #[v] := by
  rcases h with ⟨rfl, _⟩ | ⟨c, _, rfl⟩ | ⟨_, o', k, rfl⟩ <;> exact ⟨rfl, rfl⟩
theorem ze52 : zeroB Try.prog 52 = some #[.int .i64 0, .int .i64 0, .int .i64 0, .int .i64 0, .slice none 0 0] := by kernel_rfl
theorem postF_take (B : Bk) (l : List Tr) : (postF B (l.take 18)).1 = (postF B l).1 ∧ (postF B (l.take 18)).2.2 = (postF B l).2.2 := by
  by_cases h : l.length ≤ 18
  · rw [List.take_of_length_le h]; exact ⟨rfl, rfl⟩
  · have h1 : postB l = false := by
      unfold postB
      rw [show decide (l.length ≤ 16) = false from decide_eq_false (by omega)]
      simp
    have h2 : postB (l.take 18) = false := by
      unfold postB
      rw [List.length_take, show decide (min 18 l.length ≤ 16) = false from decide_eq_false (by omega)]
      simp
    unfold postF
    rw [if_pos h1, if_pos h2]
    exact ⟨rfl, rfl⟩
theorem Built.step {B : Bk} (h : Built B) (l : List Tr) : Built (postF B l).1 := by
  by_cases hz : (postF B l).2.2 = 0
  · exact .post h hz
  · have : (postF B l).1 = B := by
      revert hz
      unfold postF
      split
      · intro _; rfl
      · split
        · intro _; rfl
        · split
          · intro _; rfl
          · intro h; exact absurd rfl h
    rw [this]; exact h
theorem postF_bad {B : Bk} {l : List Tr} (h : (postF B l).2.2 ≠ 0) : (postF B l).1 = B ∧ (postF B l).2.1 = 0 := by
  revert h
  unfold postF
  split
  · intro _; exact ⟨rfl, rfl⟩
  · split
    · intro _; exact ⟨rfl, rfl⟩
    · split
      · intro _; exact ⟨rfl, rfl⟩
      · intro h; exact absurd rfl h
theorem postF_num {B : Bk} {l : List Tr} (h : (postF B l).2.2 = 0) : (postF B l).2.1 = ((B.P.length + 1 : Nat) : Int) := by
  revert h
  unfold postF
  split
  · intro h; exact absurd h (show ¬ ((2 : Int) = 0) by decide)
  · split
    · intro h; exact absurd h (show ¬ ((11 : Int) = 0) by decide)
    · split
      · intro h; exact absurd h (show ¬ ((5 : Int) = 0) by decide)
      · intro _; rfl
/-- Post, whatever comes of it. -/
theorem Post_ok {m : AM} {b0 bk : Nat} {B : Bk} {pv v : Value} {l : List Tr} (h : BookAt m b0 bk B pv) (hl : ∀ M, Fr m M bk pv → Trs M v l) (hb : Bd B.H 1000000000) (hlen : B.P.length ≤ 1000000) (hll : l.length ≤ 1000000) :
    ACall Try.prog 28 #[.pointer (some ⟨bk, 0, none⟩), v] m (fun r M => ∃ u, r = .tuple #[.int .i64 (postF B l).2.1, .int .i64 (postF B l).2.2] ∧ BookAt M b0 bk (postF B l).1 u ∧ Fr m M bk pv ∧ (∀ j, j < m.length → NotOf pv j → NotOf u j) ∧ ((postF B l).1.P.length = 0 → u = pv)) := by
  by_cases hz : (postF B l).2.2 = 0
  · rw [postF_num hz, hz]
    refine (Post_good h hl hb hlen hz).mono ?_
    rintro r M ⟨u, e1, e2, e3, e4⟩
    refine ⟨u, e1, e2, e3, e4, fun h0 => ?_⟩
    rw [(postF_zero hz).2] at h0
    simp at h0
  · obtain ⟨e1, e2⟩ := postF_bad hz
    refine (Post_bad h (hl m (Fr.refl _ _ _)) hb hll hz).mono ?_
    rintro r M ⟨rfl, rfl⟩
    rw [e1, e2]
    exact ⟨pv, rfl, h, Fr.refl _ _ _, fun j _ hn => hn, fun _ => rfl⟩
end Go.Proofs.Ytabdnepfcohncaa.Abs
namespace Go.Proofs.Ytabdnepfcohncaa.Abs
set_option linter.unusedSimpArgs false
set_option linter.unusedVariables false
open Go.RowKit
open Go.Proofs.Ytabdnepfcohncaa.Sim
open Go.Proofs
/-- A book stays what it is while another is written. -/
theorem PostsAt.keep {M M' : AM} {b0 xk : Nat} {pv px : Value} {P : List (List Tr)} (h : PostsAt M b0 pv P) (hF : Fr M M' xk px) (hd : ∀ j, NotOf pv j ∨ NotOf px j) (hx : NotOf pv xk) (hs : ∀ a x, Rd M a 0 (.int .i64 x) → a ≠ xk ∧ NotOf px a) : PostsAt M' b0 pv P := by
  obtain ⟨pc, h5, h6⟩ := h
  refine ⟨pc, h5.keep fun j hj hnj => hF.2 j hj (fun e => hnj (e ▸ hx)) ((hd j).resolve_left hnj), fun k hk => ?_⟩
  obtain ⟨u, q1, q2⟩ := h6 k hk
  exact ⟨u, q1, q2.keep hF.1 fun a ha hr => hF.2 a ha (hs a _ hr).1 (hs a _ hr).2⟩
theorem BookAt.other {M M' : AM} {b0 bk b1 xk : Nat} {B : Bk} {P : List (List Tr)} {pv px : Value} (h : BookAt M b0 bk B pv) (hX : RBook M b1 xk P px) (hz : P.length = 0 → px = .slice none 0 0) (hF : Fr M M' xk px) (hd : ∀ j, NotOf pv j ∨ NotOf px j) (hne : bk ≠ xk) (h1 : NotOf pv xk) (h2 : NotOf px bk) : BookAt M' b0 bk B pv :=
  ⟨h.lo, by rw [hF.2 bk h.lt hne h2]; exact h.cells, h.lH, h.lC, PostsAt.keep h.row hF hd h1 fun a x hr => ⟨(hX.sep hr).1 hX.slv, by
    by_cases h0 : P.length = 0
    · rw [hz h0]; exact NotOf.nil
    · exact (hX.sep hr).2 (by omega)⟩⟩
theorem RBook.other {M M' : AM} {b0 bk b1 xk : Nat} {B : Bk} {P : List (List Tr)} {pv px : Value} (h : BookAt M b0 bk B pv) (hz : B.P.length = 0 → pv = .slice none 0 0) (hX : RBook M b1 xk P px) (hF : Fr M M' bk pv) (hd : ∀ j, NotOf pv j ∨ NotOf px j) (hne : bk ≠ xk) (h1 : NotOf pv xk) (h2 : NotOf px bk) : RBook M' b1 xk P px :=
  ⟨hX.lo, by rw [hF.2 xk hX.lt (Ne.symm hne) h1]; exact hX.cells, PostsAt.keep hX.posts hF (fun j => (hd j).symm) h2 fun a x hr => ⟨(h.sep hr).1, by
    by_cases h0 : B.P.length = 0
    · rw [hz h0]; exact NotOf.nil
    · exact (h.sep hr).2 (by omega)⟩⟩
/-- Two books side by side, apart. -/
structure Two (M : AM) (b0 bk xk : Nat) (B : Bk) (pv px : Value) : Prop where
  b : BookAt M b0 bk B pv
  x : RBook M b0 xk B.P px
  ne : bk ≠ xk
  dis : ∀ j, NotOf pv j ∨ NotOf px j
  n1 : NotOf pv xk
  n2 : NotOf px bk
  z1 : B.P.length = 0 → pv = .slice none 0 0
  z2 : B.P.length = 0 → px = .slice none 0 0
theorem Two.old {M : AM} {b0 bk xk : Nat} {B : Bk} {pv px : Value} (h : Two M b0 bk xk B pv px) (T : AM) : Two (M ++ T) b0 bk xk B pv px := ⟨h.b.old T, h.x.old T, h.ne, h.dis, h.n1, h.n2, h.z1, h.z2⟩
theorem Two.bfar {M : AM} {b0 bk xk : Nat} {B : Bk} {pv px : Value} (h : Two M b0 bk xk B pv px) (j : Nat) : (j < M.length ∨ NotOf pv j) ∧ (j < M.length ∨ NotOf px j) := by
  obtain ⟨pc, q1, _⟩ := h.b.row
  obtain ⟨pd, q2, _⟩ := h.x.posts
  by_cases hj : j < M.length
  · exact ⟨.inl hj, .inl hj⟩
  · exact ⟨.inr (q1.far (by omega)), .inr (q2.far (by omega))⟩
theorem Row.trs {M : AM} {b0 : Nat} {u : Value} {l : List Tr} (h : Row M b0 4 u (tcs l) l.length) (h0 : 0 < M.length) : Trs M u l := by
  obtain ⟨a, q1, q2, q3⟩ := h.sl h0
  refine ⟨a, 0, q1, q2, fun k hk => ?_⟩
  obtain ⟨b, w1, w2⟩ := q3 (by omega)
  exact ⟨b, w1, fun j v hj => by have := w2 (k * 4 + j) v (tcs_get l k hk j v hj); rwa [show 0 + k * 4 + j = 0 + (k * 4 + j) by omega]⟩
theorem Two.step {M M1 M2 : AM} {b0 bk xk : Nat} {B B' : Bk} {P' : List (List Tr)} {pv px pv' px' : Value} (h : Two M b0 bk xk B pv px) (hb : BookAt M1 b0 bk B' pv') (hF1 : Fr M M1 bk pv) (hn1 : ∀ j, j < M.length → NotOf pv j → NotOf pv' j) (hz1 : B'.P.length = 0 → pv' = pv)
    (hx : RBook M2 b0 xk P' px') (hF2 : Fr M1 M2 xk px) (hn2 : ∀ j, j < M1.length → NotOf px j → NotOf px' j) (hz2 : P'.length = 0 → px' = px) (eP : P' = B'.P) (hP : B'.P.length = 0 → B.P.length = 0) : Two M2 b0 bk xk B' pv' px' := by
  subst eP
  have hx1 := RBook.other h.b h.z1 h.x hF1 h.dis h.ne h.n1 h.n2
  have hl := h.x.lt
  have hl1 := h.b.lt
  have hLL := hF1.1
  have hb2 : BookAt M2 b0 bk B' pv' := BookAt.other hb hx1 h.z2 hF2 (fun j => by
    rcases h.dis j with hj | hj
    · by_cases hlt : j < M.length
      · exact .inl (hn1 j hlt hj)
      · exact .inr ((h.bfar j).2.resolve_left hlt)
    · exact .inr hj) h.ne (hn1 _ hl h.n1) h.n2
  refine ⟨hb2, hx, h.ne, fun j => ?_, hn1 _ hl h.n1, hn2 _ (by omega) h.n2, fun e => by rw [hz1 e]; exact h.z1 (hP e), fun e => by rw [hz2 e]; exact h.z2 (hP e)⟩
  by_cases h1 : j < M.length
  · rcases h.dis j with hj | hj
    · exact .inl (hn1 j h1 hj)
    · exact .inr (hn2 j (by omega) hj)
  · by_cases h2 : j < M1.length
    · exact .inr (hn2 j h2 ((h.bfar j).2.resolve_left h1))
    · obtain ⟨pc, q1, _⟩ := hb.row
      exact .inl (q1.far (by omega))
theorem Two.low {M : AM} {b0 bk xk : Nat} {B : Bk} {pv px : Value} (h : Two M b0 bk xk B pv px) {j : Nat} (hj : j < b0) : j ≠ bk ∧ j ≠ xk ∧ NotOf pv j ∧ NotOf px j := by
  obtain ⟨pc, q1, _⟩ := h.b.row
  obtain ⟨pd, q2, _⟩ := h.x.posts
  have := h.b.lo
  have := h.x.lo
  exact ⟨by omega, by omega, NotOf.row q1 hj, NotOf.row q2 hj⟩
theorem Deed.one {x : Deed} {w : Value} {a o n : Nat} (h : Sl w a o n) : (Value.agg (x.cells w).toArray).cells.all (·.oneCell') = true := by
  rcases h with ⟨rfl, _⟩ | ⟨c, _, rfl⟩ | ⟨_, o', k, rfl⟩ <;> simp [Deed.cells, Value.cells, Value.oneCell']
/-- What holds where a block is left. -/
theorem AW.midX {P : Program} {nt : Nat} {m m0 : AM} {t : Fm} {c : Code} {Q : AEx → Fm → AM → Prop} (id : Nat) (Mid : Fm → AM → Prop) (h : AW P nt m0 c t m (fun e t' m' => e = .exit id ∧ Mid t' m')) (h2 : ∀ t' m', Mid t' m' → Q (.exit id) t' m') : AW P nt m0 c t m Q :=
  h.mono fun e t' m' ⟨e1, e2⟩ => by subst e1; exact h2 _ _ e2
end Go.Proofs.Ytabdnepfcohncaa.Abs
namespace Go.Proofs.Ytabdnepfcohncaa.Abs
set_option linter.unusedSimpArgs false
set_option linter.unusedVariables false
open Go.RowKit
open Go.Proofs.Ytabdnepfcohncaa.Sim
open Go.Proofs
open Go.ChangeShapes Go.WideShapes Go.Deep
section
variable {H : Type} {enc : TypeId × Value → H} {P : Program} {w : World} {base : Nat} {held : Bool}
end
/-- The deeds of an argument are few enough to be counted. -/
structure DShort (ds : List Deed) : Prop where
  n : ds.length ≤ 9223372036854775807
  l : ∀ k, (ds.getD k default).l.length ≤ 9223372036854775807
theorem short_deeds {F : Nat → Deed} {n : Nat} (h : n ≤ maxLen) (hF : ∀ k, (F k).l.length ≤ maxLen) : DShort ((List.range n).map F) := by
  unfold maxLen at *
  refine ⟨by simp; omega, fun k => ?_⟩
  by_cases hk : k < n
  · have e : ((List.range n).map F).getD k default = F k := by simp [hk]
    rw [e]
    have := hF k
    omega
  · have e : ((List.range n).map F).getD k default = default := by simp [hk]
    rw [e]
    show ([] : List Tr).length ≤ _
    simp
end Go.Proofs.Ytabdnepfcohncaa.Abs
namespace Go.Proofs.Ytabdnepfcohncaa.Abs
set_option linter.unusedSimpArgs false
set_option linter.unusedVariables false
open Go.RowKit
open Go.Proofs.Ytabdnepfcohncaa.Sim
open Go.Proofs
open Classical in
/-- Of a memory what S lets see. -/
noncomputable def vw (S : Nat → Prop) (m : AM) : AM := m.mapIdx fun i b => if S i then b else none
theorem vw_len (S : Nat → Prop) (m : AM) : (vw S m).length = m.length := by simp [vw]
theorem vw_in {S : Nat → Prop} {m : AM} {i : Nat} (h : S i) : (vw S m)[i]? = m[i]? := by
  simp only [vw, List.getElem?_mapIdx, if_pos h]
  cases m[i]? <;> rfl
theorem vw_out {S : Nat → Prop} {m : AM} {i : Nat} (h : ¬ S i) (hi : i < m.length) : (vw S m)[i]? = some none := by
  simp only [vw, List.getElem?_mapIdx, if_neg h, List.getElem?_eq_getElem hi]
  rfl
theorem vw_some {S : Nat → Prop} {m : AM} {i : Nat} {b : Blk} : (vw S m)[i]? = some (some b) ↔ S i ∧ m[i]? = some (some b) := by
  by_cases h : S i
  · rw [vw_in h]; exact ⟨fun e => ⟨h, e⟩, fun e => e.2⟩
  · constructor
    · intro e
      have hl := (List.getElem?_eq_some_iff.1 e).1
      rw [vw_len] at hl
      rw [vw_out h hl] at e
      cases e
    · intro e; exact absurd e.1 h
/-- m lies in m'. -/
structure Sub (m m' : AM) : Prop where
  len : m.length ≤ m'.length
  get : ∀ (i : Nat) (b : Blk), m[i]? = some (some b) → m'[i]? = some (some b)
theorem Sub.refl (m : AM) : Sub m m := ⟨Nat.le_refl _, fun _ _ h => h⟩
theorem Sub.trans {a b c : AM} (h : Sub a b) (k : Sub b c) : Sub a c := ⟨Nat.le_trans h.len k.len, fun i x hx => k.get i x (h.get i x hx)⟩
theorem Sub.vw (S : Nat → Prop) (m : AM) : Sub (vw S m) m := ⟨by rw [vw_len]; exact Nat.le_refl _, fun i b h => (vw_some.1 h).2⟩
theorem Sub.vws {S S' : Nat → Prop} (h : ∀ i, S i → S' i) (m : AM) : Sub (Abs.vw S m) (Abs.vw S' m) := ⟨by rw [vw_len, vw_len]; exact Nat.le_refl _, fun i b hb => vw_some.2 ⟨h i (vw_some.1 hb).1, (vw_some.1 hb).2⟩⟩
theorem Sub.app (m N : AM) : Sub m (m ++ N) := ⟨by rw [List.length_append]; omega, fun i b h => get_old N h⟩
theorem MRep.vw {base : Nat} {R : Pl} {m : AM} {w : World} (h : MRep base R m w) (S : Nat → Prop) : MRep base R (Abs.vw S m) w :=
  ⟨fun i hi => h.none_ i (by rwa [vw_len] at hi), fun i b hb => h.rep i b (vw_some.1 hb).2, fun i j b c p q hi hj => h.apart i j b c p q (vw_some.1 hi).2 (vw_some.1 hj).2⟩
open Classical in
/-- What stands behind a call that saw S of m and left M' of it. -/
noncomputable def glue (S : Nat → Prop) (m M' : AM) : AM := (List.range (max m.length M'.length)).map fun i =>
  if i < m.length ∧ ¬ S i then m.getD i none else match M'.getD i none with
    | some b => if b.kind.mine = true ∨ m[i]? = some (some b) then some b else none
    | none => none
theorem glue_len (S : Nat → Prop) (m M' : AM) : (glue S m M').length = max m.length M'.length := by simp [glue]
theorem glue_out {S : Nat → Prop} {m M' : AM} {i : Nat} (hi : i < m.length) (h : ¬ S i) : (glue S m M')[i]? = m[i]? := by
  unfold glue
  rw [List.getElem?_map, List.getElem?_range (by omega), Option.map_some, if_pos ⟨hi, h⟩, List.getElem?_eq_getElem hi, List.getD_eq_getElem?_getD, List.getElem?_eq_getElem hi]
  rfl
open Classical in
theorem glue_some {S : Nat → Prop} {m M' : AM} {i : Nat} {b : Blk} : (glue S m M')[i]? = some (some b) ↔ (i < m.length ∧ ¬ S i ∧ m[i]? = some (some b)) ∨ (¬ (i < m.length ∧ ¬ S i) ∧ M'[i]? = some (some b) ∧ (b.kind.mine = true ∨ m[i]? = some (some b))) := by
  by_cases h : i < m.length ∧ ¬ S i
  · rw [glue_out h.1 h.2]
    exact ⟨fun e => .inl ⟨h.1, h.2, e⟩, fun e => by
      rcases e with e | e
      · exact e.2.2
      · exact absurd h e.1⟩
  · have key : ∀ (hi : i < max m.length M'.length), (glue S m M')[i]? = some (match M'.getD i none with
        | some b => if b.kind.mine = true ∨ m[i]? = some (some b) then some b else none
        | none => none) := fun hi => by
      unfold glue
      rw [List.getElem?_map, List.getElem?_range hi, Option.map_some, if_neg h]
    constructor
    · intro e
      have hl := (List.getElem?_eq_some_iff.1 e).1
      rw [glue_len] at hl
      rw [key hl] at e
      injection e with e
      split at e
      · rename_i c hc
        split at e
        · rename_i hq
          injection e with e
          subst e
          refine .inr ⟨h, ?_, hq⟩
          rw [List.getD_eq_getElem?_getD] at hc
          cases hx : M'[i]? with
          | none => rw [hx] at hc; cases hc
          | some y => rw [hx] at hc; simp only [Option.getD_some] at hc; rw [hc]
        · cases e
      · cases e
    · rintro (e | ⟨_, e1, e2⟩)
      · exact absurd ⟨e.1, e.2.1⟩ h
      · have hl := (List.getElem?_eq_some_iff.1 e1).1
        rw [key (by omega)]
        have : M'.getD i none = some b := by rw [List.getD_eq_getElem?_getD, e1]; rfl
        rw [this]
        simp only
        rw [if_pos e2]
theorem Owned.vw {S : Nat → Prop} {m : AM} {R : Pl} {k : Nat} (h : Owned (Abs.vw S m) R k) : ∃ (i : Nat) (b : Blk) (p : Sim.Place), S i ∧ m[i]? = some (some b) ∧ b.kind.mine = true ∧ R i = some p ∧ p.block = k := by
  obtain ⟨i, b, p, h1, h2, h3, h4⟩ := h
  exact ⟨i, b, p, (vw_some.1 h1).1, (vw_some.1 h1).2, h2, h3, h4⟩
theorem mine_edge {k : Kind} (h : k.mine = true) : k ≠ .edge := by rintro rfl; cases h
theorem Post.glue {base : Nat} {S : Nat → Prop} {m M' : AM} {R R' : Pl} {w w' : World} (hm : MRep base R m w) (h : Post base (vw S m) M' R R' w w') : Post base m (Abs.glue S m M') R R' w w' := by
  have old : ∀ (i : Nat) (b : Blk) (p : Sim.Place), m[i]? = some (some b) → R' i = some p → R i = some p ∧ BRep base R b p w := fun i b p hb hp => by
    obtain ⟨q, q1, q2⟩ := hm.rep i b hb
    have := h.le i q q1
    rw [hp] at this
    injection this with this
    subst this
    exact ⟨q1, q2⟩
  refine ⟨h.le, ⟨fun i hi => h.rep.none_ i (by rw [glue_len] at hi; omega), fun i b hb => ?_, fun i j b c p q hi hj hbm hce hne hRi hRj => ?_⟩, h.os, h.tape, h.output, h.size, fun k hk ho => h.keep k hk fun ho' => ?_, fun k ho => ?_⟩
  · rcases glue_some.1 hb with ⟨h1, h2, h3⟩ | ⟨_, h2, _⟩
    · obtain ⟨p, q1, q2⟩ := hm.rep i b h3
      refine ⟨p, h.le i p q1, ?_⟩
      by_cases hek : b.kind = .edge
      · unfold BRep at q2 ⊢
        rw [hek] at q2 ⊢
        exact ⟨by have := h.size; omega, q2.2⟩
      refine (q2.mono h.le).kept (h.keep p.block q2.lt fun ho => ?_)
      obtain ⟨i', b', p', o1, o2, o3, o4, o5⟩ := Owned.vw ho
      exact hm.apart i' i b' b p' p o2 h3 o3 hek (fun e => h2 (e ▸ o1)) o4 q1 o5
    · exact h.rep.rep i b h2
  · rcases glue_some.1 hi with ⟨a1, a2, a3⟩ | ⟨a1, a2, a3⟩ <;> rcases glue_some.1 hj with ⟨c1, c2, c3⟩ | ⟨c1, c2, c3⟩
    · exact hm.apart i j b c p q a3 c3 hbm hce hne (old i b p a3 hRi).1 (old j c q c3 hRj).1
    · rcases c3 with c3 | c3
      · rcases h.sub q.block ⟨j, c, q, c2, c3, hRj, rfl⟩ with hz | ho
        · have := (old i b p a3 hRi).2.lt; omega
        · obtain ⟨j', c', q', o1, o2, o3, o4, o5⟩ := Owned.vw ho
          rw [← o5]
          exact hm.apart i j' b c' p q' a3 o2 hbm (mine_edge o3) (fun e => a2 (e ▸ o1)) (old i b p a3 hRi).1 o4
      · exact hm.apart i j b c p q a3 c3 hbm hce hne (old i b p a3 hRi).1 (old j c q c3 hRj).1
    · rcases h.sub p.block ⟨i, b, p, a2, hbm, hRi, rfl⟩ with hz | ho
      · have := (old j c q c3 hRj).2.lt; omega
      · obtain ⟨i', b', p', o1, o2, o3, o4, o5⟩ := Owned.vw ho
        rw [← o5]
        exact hm.apart i' j b' c p' q o2 c3 o3 hce (fun e => c2 (e ▸ o1)) o4 (old j c q c3 hRj).1
    · exact h.rep.apart i j b c p q a2 c2 hbm hce hne hRi hRj
  · obtain ⟨i', b', p', o1, o2, o3, o4, o5⟩ := Owned.vw ho'
    exact ho ⟨i', b', p', o2, o3, o4, o5⟩
  · obtain ⟨i, b, p, h1, h2, h3, h4⟩ := ho
    rcases glue_some.1 h1 with ⟨_, _, a3⟩ | ⟨_, a2, _⟩
    · exact .inr ⟨i, b, p, a3, h2, (old i b p a3 h3).1, h4⟩
    · rcases h.sub k ⟨i, b, p, a2, h2, h3, h4⟩ with hz | ho
      · exact .inl hz
      · obtain ⟨i', b', p', o1, o2, o3, o4, o5⟩ := Owned.vw ho
        exact .inr ⟨i', b', p', o2, o3, o4, o5⟩
/-- What a call that saw S of m left behind: M' of what it saw, M of all. -/
structure Fra (S : Nat → Prop) (m M' M : AM) : Prop where
  len : m.length ≤ M.length
  le : M'.length ≤ M.length
  out : ∀ i, i < m.length → ¬ S i → M[i]? = m[i]?
  get : ∀ (i : Nat) (b : Blk), (i < m.length → S i) → M'[i]? = some (some b) → b.kind.mine = true ∨ m[i]? = some (some b) → M[i]? = some (some b)
theorem Fra.of_glue (S : Nat → Prop) (m M' : AM) : Fra S m M' (glue S m M') :=
  ⟨by rw [glue_len]; omega, by rw [glue_len]; omega, fun i hi hs => glue_out hi hs, fun i b h1 h2 h3 => glue_some.2 (.inr ⟨fun e => e.2 (h1 e.1), h2, h3⟩)⟩
/-- THE FRAME. -/
theorem ACall.frame {P : Program} {f : FuncId} {args : Array Value} {m : AM} {Q : Value → AM → Prop} (S : Nat → Prop) (h : ACall P f args (vw S m) Q) :
    ACall P f args m (fun v M => ∃ M', Q v M' ∧ Fra S m M' M) := by
  intro base R w args' hb hm hargs
  refine (h base R w args' hb (MRep.vw hm S) hargs).mono ?_
  rintro e w' ⟨v, v', R', m', h1, h2, h3, h4⟩
  exact ⟨v, v', R', _, h1, h2, Post.glue hm h3, m', h4, Fra.of_glue S m m'⟩
/-- Of the blocks that are one's own. -/
structure MSub (m m' : AM) : Prop where
  len : m.length ≤ m'.length
  get : ∀ (i : Nat) (b : Blk), b.kind.mine = true → m[i]? = some (some b) → m'[i]? = some (some b)
theorem Sub.m {a b : AM} (h : Sub a b) : MSub a b := ⟨h.len, fun i x _ hx => h.get i x hx⟩
theorem MSub.refl (m : AM) : MSub m m := (Sub.refl m).m
theorem MSub.trans {a b c : AM} (h : MSub a b) (k : MSub b c) : MSub a c := ⟨Nat.le_trans h.len k.len, fun i x hm hx => k.get i x hm (h.get i x hm hx)⟩
/-- What a call may see and what it made. -/
def ext (S : Nat → Prop) (m : AM) : Nat → Prop := fun i => S i ∨ m.length ≤ i
theorem Fra.msub {S : Nat → Prop} {m M' M : AM} (h : Fra S m M' M) (hc : ∀ i, i < m.length → ¬ S i → M'[i]? = some none) : MSub M' (vw (ext S m) M) := by
  refine ⟨by rw [vw_len]; exact h.le, fun i b hb hi => ?_⟩
  have hs : i < m.length → S i := fun hl => by
    by_cases e : S i
    · exact e
    · rw [hc i hl e] at hi; cases hi
  refine vw_some.2 ⟨?_, h.get i b hs hi (.inl hb)⟩
  by_cases hl : i < m.length
  · exact .inl (hs hl)
  · exact .inr (by omega)
theorem Fra.other {S T : Nat → Prop} {m M' M : AM} (h : Fra S m M' M) (hd : ∀ i, T i → i < m.length → ¬ S i) : Sub (vw T m) (vw T M) := by
  refine ⟨by rw [vw_len, vw_len]; exact h.len, fun i b hi => ?_⟩
  obtain ⟨h1, h2⟩ := vw_some.1 hi
  have hl := (List.getElem?_eq_some_iff.1 h2).1
  exact vw_some.2 ⟨h1, by rw [h.out i hl (hd i h1 hl)]; exact h2⟩
/-- Only blocks of D are turned. -/
structure Keep (D : Nat → Prop) (m M : AM) : Prop where
  len : m.length ≤ M.length
  get : ∀ j, j < m.length → ¬ D j → M[j]? = m[j]?
theorem Keep.clean {D S : Nat → Prop} {m M : AM} (h : Keep D (vw S m) M) (hd : ∀ i, D i → S i) : ∀ i, i < m.length → ¬ S i → M[i]? = some none := fun i hi hs => by
  rw [h.get i (by rw [vw_len]; exact hi) (fun e => hs (hd i e)), vw_out hs hi]
theorem Keep.refl (D : Nat → Prop) (m : AM) : Keep D m m := ⟨Nat.le_refl _, fun _ _ _ => rfl⟩
theorem Keep.trans {D E : Nat → Prop} {a b c : AM} (h : Keep D a b) (k : Keep E b c) (he : ∀ j, j < a.length → E j → D j) : Keep D a c :=
  ⟨Nat.le_trans h.len k.len, fun j hj hd => by rw [k.get j (by have := h.len; omega) (fun e => hd (he j hj e)), h.get j hj hd]⟩
theorem Keep.mono {D E : Nat → Prop} {a b : AM} (h : Keep D a b) (he : ∀ j, D j → E j) : Keep E a b := ⟨h.len, fun j hj hd => h.get j hj fun e => hd (he j e)⟩
theorem Keep.app (D : Nat → Prop) (m N : AM) : Keep D m (m ++ N) := ⟨by rw [List.length_append]; omega, fun j hj _ => List.getElem?_append_left hj⟩
theorem Row.msub {M M' : AM} {b0 s : Nat} {u : Value} {c : List Value} {n : Nat} (h : Row M b0 s u c n) (hs : MSub M M') : Row M' b0 s u c n := by
  rcases h with h | ⟨a, kd, sz, h1, h2, h3, h4, h5⟩
  · exact .inl h
  · exact .inr ⟨a, kd, sz, h1, h2, hs.get a _ (by rcases h5 with rfl | ⟨rfl, _⟩ <;> rfl) h3, h4, h5⟩
theorem PostAt.msub {M M' : AM} {b0 : Nat} {u : Value} {l : List Tr} (h : PostAt M b0 u l) (hs : MSub M M') : PostAt M' b0 u l := by
  obtain ⟨a, h1, h2, h3, ⟨b, h4, h5, h6⟩, h7⟩ := h
  exact ⟨a, h1, by have := hs.len; omega, h3, ⟨b, hs.get a b h5 h4, h5, h6⟩, h7⟩
theorem BookAt.msub {M M' : AM} {b0 bk : Nat} {B : Bk} {pv : Value} (h : BookAt M b0 bk B pv) (hs : MSub M M') : BookAt M' b0 bk B pv := by
  obtain ⟨h1, h2, h3, h4, pc, h5, h6⟩ := h
  refine ⟨h1, hs.get _ _ rfl h2, h3, h4, pc, h5.msub hs, fun k hk => ?_⟩
  obtain ⟨u, k1, k2⟩ := h6 k hk
  exact ⟨u, k1, k2.msub hs⟩
theorem RBook.msub {M M' : AM} {b0 xk : Nat} {P : List (List Tr)} {pv : Value} (h : RBook M b0 xk P pv) (hs : MSub M M') : RBook M' b0 xk P pv := by
  obtain ⟨h1, h2, pc, h5, h6⟩ := h
  refine ⟨h1, hs.get _ _ rfl h2, pc, h5.msub hs, fun k hk => ?_⟩
  obtain ⟨u, k1, k2⟩ := h6 k hk
  exact ⟨u, k1, k2.msub hs⟩
theorem Trs.sub {M M' : AM} {v : Value} {l : List Tr} (h : Trs M v l) (hs : Sub M M') : Trs M' v l := by
  obtain ⟨a, o, h1, h2, h3⟩ := h
  refine ⟨a, o, h1, by have := hs.len; omega, fun k hk => ?_⟩
  obtain ⟨b, q1, q2⟩ := h3 k hk
  exact ⟨b, hs.get a b q1, q2⟩
/-- Which blocks a book may turn. -/
def bkD (bk : Nat) (pv : Value) : Nat → Prop := fun j => j = bk ∨ ¬ NotOf pv j
theorem Fr.keep {m M : AM} {bk : Nat} {pv : Value} (h : Fr m M bk pv) : Keep (bkD bk pv) m M := ⟨h.1, fun j hj hd => by
  have h1 : j ≠ bk := fun e => hd (.inl e)
  have h2 : NotOf pv j := Classical.byContradiction fun e => hd (.inr e)
  exact h.2 j hj h1 h2⟩
theorem Row.at_ {M : AM} {b0 s : Nat} {u : Value} {c : List Value} {n j : Nat} (h : Row M b0 s u c n) (hj : ¬ NotOf u j) : ∃ b, M[j]? = some (some b) := by
  rcases h with ⟨rfl, _⟩ | ⟨a, kd, sz, _, rfl, h3, _⟩
  · exact absurd NotOf.nil hj
  · by_cases e : j = a
    · subst e; exact ⟨_, h3⟩
    · exact absurd (fun n' c' e' => by simp only [Value.slice.injEq, Option.some.injEq, Addr.mk.injEq] at e'; exact e e'.1.1.symm) hj
theorem BookAt.in_ {S : Nat → Prop} {M : AM} {b0 bk : Nat} {B : Bk} {pv : Value} (h : BookAt (vw S M) b0 bk B pv) : ∀ i, bkD bk pv i → S i := fun i hi => by
  rcases hi with rfl | hi
  · exact (vw_some.1 h.cells).1
  · obtain ⟨pc, h5, _⟩ := h.row
    obtain ⟨b, hb⟩ := h5.at_ hi
    exact (vw_some.1 hb).1
theorem RBook.in_ {S : Nat → Prop} {M : AM} {b0 bk : Nat} {P : List (List Tr)} {pv : Value} (h : RBook (vw S M) b0 bk P pv) : ∀ i, bkD bk pv i → S i := fun i hi => by
  rcases hi with rfl | hi
  · exact (vw_some.1 h.cells).1
  · obtain ⟨pc, h5, _⟩ := h.posts
    obtain ⟨b, hb⟩ := h5.at_ hi
    exact (vw_some.1 hb).1
end Go.Proofs.Ytabdnepfcohncaa.Abs
namespace Go.Proofs.Ytabdnepfcohncaa.Abs
set_option linter.unusedSimpArgs false
set_option linter.unusedVariables false
open Go.RowKit
open Go.Proofs.Ytabdnepfcohncaa.Sim
open Go.Proofs
def slF : Array Field := #[⟨"place", 3, 0, false, "", "trank/stock", 0⟩, ⟨"item", 3, 1, false, "", "trank/stock", 8⟩]
theorem un155 : Try.prog.underlying 155 = some (.struct slF) := by kernel_rfl
theorem un136 : Try.prog.underlying 136 = some (.map 155 4) := by kernel_rfl
def slotV (k : Int × Int) : Value := .agg #[.int .i64 k.1, .int .i64 k.2]
theorem forIn2 {α σ : Type} (x y : α) (s : σ) (f : α → σ → Sem (ForInStep σ)) : (forIn #[x, y] s f : Sem σ) = (do match ← f x s with | .done b => pure b | .yield b => match ← f y b with | .done b => pure b | .yield b => pure b) := by
  simp [List.forIn_cons, List.forIn_nil]
  exact congrArg (fun g => f x s >>= g) (funext fun u' => by
    cases u' with
    | done b => rfl
    | yield b => exact congrArg (fun g => f y b >>= g) (funext fun v => by cases v <;> rfl))
theorem still_chkI (e : Bool) (n : Nat) (x : Int) : Sim.still Try.prog (Instr.checkKey e (n + 1) 3 (.int .i64 x)) = some () := by
  rw [Instr.checkKey]
  show Sim.still Try.prog (Sem.bind (underlying 3) _) = _
  rw [still_bind, still_und un3]
  rfl
theorem still_chk (e : Bool) (n : Nat) (k : Int × Int) : Sim.still Try.prog (Instr.checkKey e (n + 1 + 1) 155 (slotV k)) = some () := by
  obtain ⟨a, b⟩ := k
  have p0 := part_tr (c := #[.int .i64 a, .int .i64 b]) (k := 0) rfl
  have p1 := part_tr (c := #[.int .i64 a, .int .i64 b]) (k := 1) rfl
  have h3 := fun x => still_chkI e n x
  rw [Instr.checkKey]
  show Sim.still Try.prog (Sem.bind (underlying 155) _) = _
  rw [still_bind, still_und un155]
  unfold slF slotV
  simp only [forIn2]
  simp [bind, still_bind, p0, p1, h3, pure, Sim.still]
theorem run_chk (e : Bool) (k : Int × Int) (w : World) : (Instr.checkKey e 10000 155 (slotV k)).run Try.prog w = .ok () w := still_run _ _ _ (still_chk e 9998 k) w
theorem still_eqS (n : Nat) (k k' : Int × Int) : Sim.still Try.prog (Op.equalIn (n + 1 + 1) 155 (slotV k) (slotV k')) = some (k == k') := by
  obtain ⟨a, b⟩ := k
  obtain ⟨a', b'⟩ := k'
  have hs : Try.prog.stoodInHeld 155 = false := by kernel_rfl
  have p0 := part_tr (c := #[.int .i64 a, .int .i64 b]) (k := 0) rfl
  have p1 := part_tr (c := #[.int .i64 a, .int .i64 b]) (k := 1) rfl
  have q0 := part_tr (c := #[.int .i64 a', .int .i64 b']) (k := 0) rfl
  have q1 := part_tr (c := #[.int .i64 a', .int .i64 b']) (k := 1) rfl
  have h3 := fun (x y : Int) => still_eqI (P := Try.prog) un3 n x y
  rw [Op.equalIn]
  show Sim.still Try.prog (Sem.bind (underlying 155) _) = _
  rw [still_bind, still_und un155]
  show Sim.still Try.prog (Sem.bind program _) = _
  have hp : Sim.still Try.prog program = some Try.prog := rfl
  rw [still_bind, hp]
  simp only [hs]
  unfold slF
  simp only [forIn2]
  have e : ((a, b) == (a', b')) = (a == a' && b == b') := rfl
  rw [e]
  cases h1 : (a == a') <;> cases h2 : (b == b') <;> simp [bind, still_bind, p0, p1, q0, q1, h3, h1, h2, pure, Sim.still]
theorem run_eqS (k k' : Int × Int) (w : World) : (Op.equal 155 (slotV k) (slotV k')).run Try.prog w = .ok (k == k') w := still_run _ _ _ (still_eqS 9998 k k') w
abbrev Ents := List ((Int × Int) × Bool)
def entsV (E : Ents) : List (Value × Value) := E.map fun e => (slotV e.1, .bool e.2)
def mapB (E : Ents) : Blk := { cells := [], kind := .map, ents := entsV E }
theorem entsV_get (E : Ents) (j : Nat) : (entsV E)[j]? = (E[j]?).map fun e => (slotV e.1, .bool e.2) := by simp [entsV]
theorem slot_g1 (k : Int × Int) : g1 (slotV k) = true := by simp [slotV, g1, g0]
/-- Where a key stands. -/
def idxE (E : Ents) (k : Int × Int) : Option Nat := E.findIdx? fun e => k == e.1
theorem run_ask (w : World) (k : Int × Int) : ∀ (E : Ents) (es : List MapEntry) (i : Nat), es.length = E.length → (∀ (j : Nat) (e : (Int × Int) × Bool), E[j]? = some e → ∃ x : MapEntry, es[j]? = some x ∧ x.key = slotV e.1) →
    (∃ (j : Nat) (x : MapEntry), idxE E k = some j ∧ es[j]? = some x ∧ (Instr.findAsking 155 (slotV k) es i).run Try.prog w = .ok (some (i + j, x.val)) w) ∨ (idxE E k = none ∧ (Instr.findAsking 155 (slotV k) es i).run Try.prog w = .ok none w)
  | [], [], i, _, _ => .inr ⟨rfl, rfl⟩
  | [], _ :: _, _, h, _ => by simp at h
  | _ :: _, [], _, h, _ => by simp at h
  | e :: E, x :: es, i, h, hj => by
    obtain ⟨x', h1, h2⟩ := hj 0 e rfl
    simp at h1; subst h1
    have hrun := run_eqS k e.1 w
    unfold Instr.findAsking idxE
    rw [List.findIdx?_cons]
    simp only [Sem.run_bind, h2, hrun, Result.andThen]
    cases hk : (k == e.1) with
    | true => exact .inl ⟨0, x, rfl, rfl, rfl⟩
    | false =>
      simp only [Bool.false_eq_true, if_false]
      rcases run_ask w k E es (i + 1) (by simpa using h) (fun j e hE => hj (j + 1) e hE) with ⟨j, y, q1, q2, q3⟩ | ⟨q1, q2⟩
      · refine .inl ⟨j + 1, y, ?_, q2, ?_⟩
        · unfold idxE at q1; rw [q1]; rfl
        · rw [q3, show i + 1 + j = i + (j + 1) by omega]
      · refine .inr ⟨?_, q2⟩
        unfold idxE at q1; rw [q1]; rfl
theorem run_findS (w : World) (k : Int × Int) (E : Ents) (es : List MapEntry) (hl : es.length = E.length) (hj : ∀ (j : Nat) (e : (Int × Int) × Bool), E[j]? = some e → ∃ x : MapEntry, es[j]? = some x ∧ x.key = slotV e.1) :
    (∃ (j : Nat) (x : MapEntry), idxE E k = some j ∧ es[j]? = some x ∧ (Instr.findKey 155 (slotV k) es).run Try.prog w = .ok (some (j, x.val)) w) ∨ (idxE E k = none ∧ (Instr.findKey 155 (slotV k) es).run Try.prog w = .ok none w) := by
  have ha := run_ask w k E es 0 hl hj
  cases es with
  | nil =>
    have : E = [] := List.eq_nil_of_length_eq_zero (by simpa using hl.symm)
    subst this
    refine .inr ⟨rfl, ?_⟩
    simp [Instr.findKey, run_underlying un155, Instr.findNow, Result.andThen]
  | cons x es =>
    have hn : Instr.findNow (.struct slF) (slotV k) (x :: es) 0 = none := by
      unfold Instr.findNow
      rfl
    have e : (Instr.findKey 155 (slotV k) (x :: es)).run Try.prog w = (Instr.findAsking 155 (slotV k) (x :: es) 0).run Try.prog w := by
      simp only [Instr.findKey, Sem.run_bind, run_underlying un155, Result.andThen, hn]
    rw [e]
    simpa only [Nat.zero_add] using ha
theorem same_slot (k : Int × Int) : Instr.sameBits 10000 (slotV k) (slotV k) = true := by
  unfold slotV
  simp [Instr.sameBits]
theorem run_stays (k : Int × Int) (w : World) : (Instr.keyThatStays (slotV k) (slotV k)).run Try.prog w = .ok (slotV k) w := by
  simp [Instr.keyThatStays, same_slot]
/-- The key k has the value b from here on. -/
def setE (E : Ents) (k : Int × Int) (b : Bool) : Ents := match idxE E k with
  | some j => E.set j (k, b)
  | none => E ++ [(k, b)]
/-- A key is there from here on; its place. -/
def addK (E : Ents) (k : Int × Int) : Ents := match idxE E k with
  | some _ => E
  | none => E ++ [(k, false)]
def atE (E : Ents) (k : Int × Int) : Nat := (idxE E k).getD E.length
def valE (E : Ents) (k : Int × Int) : Bool := match idxE E k with
  | some j => ((E[j]?).map (·.2)).getD false
  | none => false
def putE (E : Ents) (j : Nat) (b : Bool) : Ents := E.modify j fun e => (e.1, b)
theorem idxE_some {E : Ents} {k : Int × Int} {j : Nat} (h : idxE E k = some j) : ∃ b, E[j]? = some (k, b) := by
  unfold idxE at h
  obtain ⟨hj, h1, _⟩ := List.findIdx?_eq_some_iff_getElem.1 h
  refine ⟨E[j].2, ?_⟩
  rw [List.getElem?_eq_getElem hj]
  have : k = E[j].1 := by simpa using h1
  rw [this]
theorem mem_set_fst {E : Ents} {k : Int × Int} {j : Nat} {b b' : Bool} (h : E[j]? = some (k, b)) : (E.set j (k, b')).map Prod.fst = E.map Prod.fst := by
  rw [List.map_set]
  apply List.ext_getElem?
  intro i
  by_cases e : j = i
  · subst e
    have hl := (List.getElem?_eq_some_iff.1 h).1
    rw [List.getElem?_set_self (by simpa using hl), List.getElem?_map, h]
    rfl
  · rw [List.getElem?_set_ne e]
theorem setE_fst (E : Ents) (k : Int × Int) (b : Bool) (x : Int × Int) : x ∈ (setE E k b).map Prod.fst ↔ x ∈ E.map Prod.fst ∨ x = k := by
  unfold setE
  cases h : idxE E k with
  | some j =>
    obtain ⟨b', hb⟩ := idxE_some h
    simp only
    rw [mem_set_fst hb]
    exact ⟨.inl, fun q => q.elim id fun q => by rw [q]; exact List.mem_map.2 ⟨_, List.mem_of_getElem? hb, rfl⟩⟩
  | none => simp
theorem addK_fst (E : Ents) (k : Int × Int) (x : Int × Int) : x ∈ (addK E k).map Prod.fst ↔ x ∈ E.map Prod.fst ∨ x = k := by
  unfold addK
  cases h : idxE E k with
  | some j =>
    obtain ⟨b', hb⟩ := idxE_some h
    simp only
    exact ⟨.inl, fun q => q.elim id fun q => by rw [q]; exact List.mem_map.2 ⟨_, List.mem_of_getElem? hb, rfl⟩⟩
  | none => simp
theorem putE_fst (E : Ents) (j : Nat) (b : Bool) : (putE E j b).map Prod.fst = E.map Prod.fst := by
  unfold putE
  apply List.ext_getElem?
  intro i
  rw [List.getElem?_map, List.getElem?_map, List.getElem?_modify]
  cases E[i]? with
  | none => rfl
  | some e => by_cases h : j = i <;> simp [h]
theorem addK_len (E : Ents) (k : Int × Int) : atE E k < (addK E k).length := by
  unfold atE addK
  cases h : idxE E k with
  | some j =>
    obtain ⟨b', hb⟩ := idxE_some h
    exact (List.getElem?_eq_some_iff.1 hb).1
  | none => simp
section
variable {base : Nat} {R : Pl} {m : AM} {w : World}
theorem post_map (h : MRep base R m w) {i : Nat} {E : Ents} {p : Sim.Place} (hi : m[i]? = some (some (mapB E))) (hp : R i = some p) : ∃ es : Array MapEntry, w.heap[p.block]? = some (.map es es.size) ∧ RelE R (entsV E) es.toList ∧
    ∀ (E' : Ents) (fs : Array MapEntry), RelE R (entsV E') fs.toList → Post base m (m.set i (some (mapB E'))) R R w { w with heap := w.heap.setIfInBounds p.block (.map fs fs.size) } := by
  have hbr := h.of hi hp
  unfold BRep at hbr
  obtain ⟨hlt, hc, hex, hbs, es, hob, hre⟩ := hbr
  refine ⟨es, hob, hre, fun E' fs hfs => ?_⟩
  have hs := MapKept.heap_set (o' := .map fs fs.size) hob
  have hmine : (mapB E).kind.mine = true := rfl
  refine ⟨.refl R, h.turn hi hmine hp _ rfl ?_ ?_ ?_, rfl, rfl, rfl, by simp, fun k' hk' ho => ?_, fun k' ho => ?_⟩
  · refine ⟨by simpa using hlt, ?_⟩
    exact ⟨hc, hex, hbs, fs, hs.1, hfs⟩
  · intro k' hne; exact hs.2 k' hne
  · simp
  · exact hs.2 k' fun e => ho ⟨i, _, p, hi, hmine, hp, e.symm⟩
  · refine .inr ?_
    obtain ⟨j, c, q, q1, q2, q3, q4⟩ := ho
    by_cases e : j = i
    · subst e; exact ⟨j, _, q, hi, hmine, q3, q4⟩
    · rw [List.getElem?_set_ne (fun x => e x.symm)] at q1
      exact ⟨j, c, q, q1, q2, q3, q4⟩
theorem RelE.len {E : Ents} {es : List MapEntry} (h : RelE R (entsV E) es) : es.length = E.length := by
  rw [← h.1]; simp [entsV]
theorem RelE.at_ {E : Ents} {es : List MapEntry} (h : RelE R (entsV E) es) : ∀ (j : Nat) (e : (Int × Int) × Bool), E[j]? = some e → ∃ x : MapEntry, es[j]? = some x ∧ x.key = slotV e.1 ∧ x.born = j ∧ x.val = .bool e.2 := fun j e hj => by
  obtain ⟨x, h1, h2, h3, h4⟩ := h.2 j (slotV e.1) (.bool e.2) (by rw [entsV_get, hj]; rfl)
  refine ⟨x, h1, h2, h3, ?_⟩
  cases hx : x.val <;> rw [hx] at h4 <;> cases h4
  rfl
theorem RelE.mk {E : Ents} {es : List MapEntry} (hl : es.length = E.length) (h : ∀ (j : Nat) (e : (Int × Int) × Bool), E[j]? = some e → ∃ x : MapEntry, es[j]? = some x ∧ x.key = slotV e.1 ∧ x.born = j ∧ x.val = .bool e.2) : RelE R (entsV E) es := by
  refine ⟨by simp [entsV, hl], fun j k v hj => ?_⟩
  rw [entsV_get] at hj
  cases he : E[j]? with
  | none => rw [he] at hj; cases hj
  | some e =>
    rw [he] at hj
    simp only [Option.map_some, Option.some.injEq, Prod.mk.injEq] at hj
    obtain ⟨rfl, rfl⟩ := hj
    obtain ⟨x, h1, h2, h3, h4⟩ := h j e he
    exact ⟨x, h1, h2, h3, by rw [h4]; exact .bool _⟩
theorem RelE.push {E : Ents} {es : Array MapEntry} (h : RelE R (entsV E) es.toList) (k : Int × Int) (b : Bool) : RelE R (entsV (E ++ [(k, b)])) (es.push { key := slotV k, val := .bool b, born := es.size }).toList := by
  have hl := RelE.len h
  refine RelE.mk (by simpa using hl) fun j e hj => ?_
  rw [Array.toList_push]
  by_cases h1 : j < E.length
  · rw [List.getElem?_append_left h1] at hj
    rw [List.getElem?_append_left (by omega)]
    exact RelE.at_ h j e hj
  · have hj1 := (List.getElem?_eq_some_iff.1 hj).1
    obtain rfl : j = E.length := by simp at hj1; omega
    rw [List.getElem?_append_right (by omega)] at hj
    simp at hj
    subst hj
    rw [List.getElem?_append_right (by omega), hl]
    refine ⟨_, by simp; rfl, rfl, ?_, rfl⟩
    simpa using hl
theorem RelE.setv {E : Ents} {es : Array MapEntry} {k : Int × Int} {b b' : Bool} {j : Nat} (h : RelE R (entsV E) es.toList) (hj : E[j]? = some (k, b')) : RelE R (entsV (E.set j (k, b))) (es.modify j fun e => { e with key := slotV k, val := .bool b }).toList := by
  have hl := RelE.len h
  have hjl := (List.getElem?_eq_some_iff.1 hj).1
  refine RelE.mk (by simpa using hl) fun i e hi => ?_
  by_cases e2 : j = i
  · subst e2
    rw [List.getElem?_set_self hjl] at hi
    injection hi with hi; subst hi
    obtain ⟨x, h1, h2, h3, h4⟩ := RelE.at_ h j _ hj
    refine ⟨{ x with key := slotV k, val := .bool b }, ?_, rfl, h3, rfl⟩
    have : es[j]? = some x := by simpa using h1
    simp [Array.getElem?_modify, this]
  · rw [List.getElem?_set_ne e2] at hi
    obtain ⟨x, h1, h2, h3, h4⟩ := RelE.at_ h i e hi
    refine ⟨x, ?_, h2, h3, h4⟩
    have : es[i]? = some x := by simpa using h1
    simp [Array.getElem?_modify, e2, this]
theorem RelE.keyv {E : Ents} {es : Array MapEntry} {k : Int × Int} {b' : Bool} {j : Nat} (h : RelE R (entsV E) es.toList) (hj : E[j]? = some (k, b')) : RelE R (entsV E) (es.modify j fun e => { e with key := slotV k }).toList := by
  have hl := RelE.len h
  refine RelE.mk (by simpa using hl) fun i e hi => ?_
  obtain ⟨x, h1, h2, h3, h4⟩ := RelE.at_ h i e hi
  have hx : es[i]? = some x := by simpa using h1
  by_cases e2 : j = i
  · subst e2
    rw [hj] at hi; injection hi with hi; subst hi
    exact ⟨{ x with key := slotV k }, by simp [Array.getElem?_modify, hx], rfl, h3, h4⟩
  · exact ⟨x, by simp [Array.getElem?_modify, e2, hx], h2, h3, h4⟩
theorem RelE.valv {E : Ents} {es : Array MapEntry} {b : Bool} {j : Nat} (h : RelE R (entsV E) es.toList) : RelE R (entsV (putE E j b)) (es.modify j fun e => { e with val := .bool b }).toList := by
  have hl := RelE.len h
  refine RelE.mk (by simpa [putE] using hl) fun i e hi => ?_
  unfold putE at hi
  rw [List.getElem?_modify] at hi
  cases he : E[i]? with
  | none => rw [he] at hi; cases hi
  | some e0 =>
    rw [he] at hi
    obtain ⟨x, h1, h2, h3, h4⟩ := RelE.at_ h i e0 he
    have hx : es[i]? = some x := by simpa using h1
    by_cases e2 : j = i
    · subst e2
      simp at hi
      subst hi
      exact ⟨{ x with val := .bool b }, by simp [Array.getElem?_modify, hx], h2, h3, rfl⟩
    · simp [e2] at hi
      subst hi
      exact ⟨x, by simp [Array.getElem?_modify, e2, hx], h2, h3, h4⟩
end
end Go.Proofs.Ytabdnepfcohncaa.Abs
namespace Go.Proofs.Ytabdnepfcohncaa.Abs
set_option linter.unusedSimpArgs false
set_option linter.unusedVariables false
open Go.RowKit
open Go.Proofs.Ytabdnepfcohncaa.Sim
open Go.Proofs
open Go.ChangeMaps (setBlock)
/-- Blocks of memory do not speak of an iterator. -/
theorem brep_iter {base : Nat} {R : Pl} {b : Blk} {p : Sim.Place} {w w' : World} {r : Nat} {mo : Option Nat} {s : Nat} {sn : Array Nat} {c : Nat} (h : BRep base R b p w) (hr : w.heap[r]? = some (.mapIter mo s sn c)) (hs : w.heap.size ≤ w'.heap.size) (hk : ∀ k, k ≠ r → w'.heap[k]? = w.heap[k]?) : BRep base R b p w' := by
  by_cases e : p.block = r
  · unfold BRep at *
    obtain ⟨h0, h⟩ := h
    refine ⟨by omega, ?_⟩
    split at h
    · refine ⟨h.1, fun j v hj => ?_⟩
      obtain ⟨v', h1, _⟩ := h.2 j v hj
      unfold World.cell? at h1
      simp only [e, hr] at h1
      cases h1
    · exact h
    · obtain ⟨_, _, _, es, h4, _⟩ := h; rw [e, hr] at h4; injection h4 with h4; cases h4
    · obtain ⟨_, _, es, h4, _⟩ := h; rw [e, hr] at h4; injection h4 with h4; cases h4
    · obtain ⟨cur, ty, h4, _⟩ := h; rw [e, hr] at h4; injection h4 with h4; cases h4
    · obtain ⟨cur, ty, h4, _⟩ := h; rw [e, hr] at h4; injection h4 with h4; cases h4
  · exact h.kept (hk _ e)
theorem owned_iter {base : Nat} {R : Pl} {m : AM} {w : World} {r : Nat} {mo : Option Nat} {s : Nat} {sn : Array Nat} {c : Nat} (hm : MRep base R m w) (hr : w.heap[r]? = some (.mapIter mo s sn c)) : ¬ Owned m R r := by
  rintro ⟨i, b, p, h1, h2, h3, rfl⟩
  obtain ⟨q, q1, q2⟩ := hm.rep i b h1
  rw [h3] at q1; injection q1 with q1; subst q1
  unfold BRep at q2
  obtain ⟨_, h⟩ := q2
  split at h
  · rename_i e; rw [e] at h2; cases h2
  · rename_i e; rw [e] at h2; cases h2
  · obtain ⟨_, _, _, es, h4, _⟩ := h; rw [hr] at h4; injection h4 with h4; cases h4
  · rename_i e; rw [e] at h2; cases h2
  · obtain ⟨cur, ty, h4, _⟩ := h; rw [hr] at h4; injection h4 with h4; cases h4
  · obtain ⟨cur, ty, h4, _⟩ := h; rw [hr] at h4; injection h4 with h4; cases h4
/-- How many of the first n are not seen yet. -/
def unseen (n : Nat) (seen : Array Nat) : Nat := ((List.range n).filter fun j => !seen.contains j).length
theorem filter_less {α : Type} {p p' : α → Bool} : ∀ {l : List α} {x : α}, x ∈ l → p x = true → p' x = false → (∀ y, p' y = true → p y = true) → (l.filter p').length < (l.filter p).length
  | y :: l, x, h, h1, h2, h3 => by
    have hle : (l.filter p').length ≤ (l.filter p).length := by
      clear h
      induction l with
      | nil => simp
      | cons z l ih =>
        by_cases hz : p' z = true
        · rw [List.filter_cons_of_pos hz, List.filter_cons_of_pos (h3 z hz), List.length_cons, List.length_cons]; omega
        · rw [List.filter_cons_of_neg hz]
          by_cases hz' : p z = true
          · rw [List.filter_cons_of_pos hz', List.length_cons]; omega
          · rw [List.filter_cons_of_neg hz']; exact ih
    rcases List.mem_cons.1 h with rfl | h
    · rw [List.filter_cons_of_pos h1, List.filter_cons_of_neg (by rw [h2]; simp), List.length_cons]; omega
    · have ih := filter_less (p := p) (p' := p') h h1 h2 h3
      by_cases hy : p' y = true
      · rw [List.filter_cons_of_pos hy, List.filter_cons_of_pos (h3 y hy), List.length_cons, List.length_cons]; omega
      · rw [List.filter_cons_of_neg hy]
        by_cases hy' : p y = true
        · rw [List.filter_cons_of_pos hy', List.length_cons]; omega
        · rw [List.filter_cons_of_neg hy']; exact ih
theorem unseen_push {n j : Nat} {seen : Array Nat} (hj : j < n) (hs : seen.contains j = false) : unseen n (seen.push j) < unseen n seen := by
  unfold unseen
  refine filter_less (x := j) (List.mem_range.2 hj) (by show (!seen.contains j) = true; rw [hs]; rfl) (by simp) (fun y hy => ?_)
  simp only [Array.contains_push, Bool.not_eq_true', Bool.or_eq_false_iff] at hy
  show (!seen.contains y) = true
  rw [hy.1]; rfl
theorem RelE.born {R : Pl} {l : List (Value × Value)} {es : Array MapEntry} (h : RelE R l es.toList) : (∀ x ∈ es.toList, x.born < l.length ∧ ∃ k v, l[x.born]? = some (k, v) ∧ x.key = k ∧ Rel R v x.val) ∧ (es.toList.map (·.born)).Nodup := by
  have hb : es.toList.map (·.born) = List.range es.toList.length := by
    apply List.ext_getElem?
    intro j
    rw [List.getElem?_map]
    by_cases hj : j < es.toList.length
    · rw [List.getElem?_range hj]
      have hl : j < l.length := by rw [h.1]; exact hj
      obtain ⟨e, h1, _, h3, _⟩ := h.2 j l[j].1 l[j].2 (List.getElem?_eq_getElem hl)
      rw [h1, Option.map_some, h3]
    · rw [List.getElem?_eq_none (by omega), List.getElem?_eq_none (by simpa using hj)]; rfl
  refine ⟨fun x hx => ?_, by rw [hb]; exact List.nodup_range⟩
  obtain ⟨j, hj, rfl⟩ := List.getElem_of_mem hx
  have hl : j < l.length := by rw [h.1]; exact hj
  obtain ⟨e, h1, h2, h3, h4⟩ := h.2 j l[j].1 l[j].2 (List.getElem?_eq_getElem hl)
  rw [List.getElem?_eq_getElem hj] at h1
  injection h1 with h1
  rw [h1, h3]
  exact ⟨hl, _, _, List.getElem?_eq_getElem hl, h2, h4⟩
section
variable {P : Program} {nt : Nat} {ops : Array Oper}
/-- The first operations in the abstract memory, the others in the world. -/
theorem AWi.ok2 {base : Nat} {Q : Fm → AM → Prop} {QQ : Exit → Act → World → Prop} {more : List Nat} : ∀ (l : List Nat) (t : Fm) (m : AM) (R : Pl) (w : World) (a : Act), AWi P nt ops l t m Q → base ≤ w.heap.size → MRep base R m w → FR R nt t a.tmps →
    (∀ R' t' m' a' w', a'.defers = a.defers → FR R' nt t' a'.tmps → Post base m m' R R' w w' → Q t' m' → wpOps P ops QQ more a' w') → wpOps P ops QQ (l ++ more) a w
  | [], t, m, R, w, a, h, hb, hm, ht, hQ => hQ R t m a w rfl ht (.refl hm) h
  | i :: rest, t, m, R, w, a, ⟨o, ho, h⟩, hb, hm, ht, hQ => by
    rw [List.cons_append, wpOps_cons]
    refine h.ok ho hb hm ht ?_
    intro R' t' m' a' w' k1 k2 k3 k4
    refine AWi.ok2 rest t' m' R' w' a' k4 (Nat.le_trans hb k3.size) k3.rep k2 ?_
    intro R2 t2 m2 a2 w2 q1 q2 q3 q4
    exact hQ R2 t2 m2 a2 w2 (q1.trans k1) q2 (k3.trans q3) q4
theorem AWo.to' {Q : Fm → AM → Prop} : ∀ (l : List Oper) (k : Nat) (t : Fm) (m : AM), (∀ j o, l[j]? = some o → ops[k + j]? = some o) → AWo P nt ops l t m Q → AWi P nt ops (List.range' k l.length) t m Q
  | [], _, _, _, _, h => h
  | o :: rest, k, t, m, hl, h => by
    rw [List.length_cons, List.range'_succ]
    refine ⟨o, by have := hl 0 o rfl; simpa using this, ?_⟩
    exact Step.mono h fun v m' hk => AWo.to' rest (k + 1) _ _ (fun j o' hj => by have := hl (j + 1) o' (by simpa using hj); simpa [Nat.add_assoc, Nat.add_comm 1 j] using this) hk
theorem wpOps_one {QQ : Exit → Act → World → Prop} {i : Nat} {rest : List Nat} {o : Oper} {a : Act} {w : World} {v' : Value} {w' : World} (ho : ops[i]? = some o) (hg : o.guard = none) (hr : Ran P (execOp a.eval o) w v' w') (h : wpOps P ops QQ rest (a.put o.dst v') w') : wpOps P ops QQ (i :: rest) a w := by
  rw [wpOps_cons]
  unfold wpOp
  simp only [ho]
  rw [if_pos (by simp [Region.wanted, hg])]
  exact .inl (wp_of_does rfl hr h)
theorem Post.object {base : Nat} {R : Pl} {m : AM} {w : World} (h : MRep base R m w) (o : Obj) : Post base m m R R w (w.alloc o) := by
  have e : ∀ k, k < w.heap.size → (w.alloc o).heap[k]? = w.heap[k]? := fun k hk => by
    show (w.heap.push o)[k]? = _
    rw [Array.getElem?_push, if_neg (by omega)]
  exact ⟨.refl R, h.kept e, rfl, rfl, rfl, by show _ ≤ (w.heap.push o).size; simp, fun k hk _ => e k hk, fun _ h => .inr h⟩
theorem tmp_of {R : Pl} {t : Fm} {a : Act} {x : Nat} {v : Value} (h : FR R nt t a.tmps) (hx : t x = some v) : Rel R v (a.eval (.tmp x)) := evo_rel h (x := .tmp x) hx
/-- An iterator over the block q, in the world. -/
structure ItAt (R : Pl) (w : World) (i q n : Nat) (seen : Array Nat) (low : Nat) (r : Nat) (pq : Sim.Place) (c0 : Nat) : Prop where
  at_ : R i = some ⟨r, 0, 0⟩
  map : R q = some pq
  obj : w.heap[r]? = some (.mapIter (some pq.block) n seen c0)
  le : n ≤ c0
  low : low ≤ r
end
/-- Where the iterator stands. -/
def itV (M1 : AM) : Value := .pointer (some ⟨M1.length, 0, none⟩)
section
variable {P : Program} {nt : Nat} {m0 m : AM} {t : Fm}
theorem FR.cons {R : Pl} {l : List (Nat × Value)} {u : Array Value} {d : Nat} {v : Value} (h : FR R nt (Abs.put t d v) u) (hl : All (fun i v => t i = some v) l) : FR R nt (fr ((d, v) :: l)) u := by
  refine h.weak fun i x hi => ?_
  by_cases e : i = d
  · subst e
    simp only [fr, put_same] at hi ⊢
    exact hi
  · simp only [fr, put_ne _ _ e] at hi ⊢
    exact fr_all hl i x hi
theorem range_reg {ro : Option Nat} {idR it x T T1 q : Nat} {KT ET : TypeId} {p1 : String} {af1 : Array Edge} {pre : List Oper} (hro : ro = none ∨ nrB (.region idR (pre ++ [(⟨some it, .range T (.tmp x), T1, p1, af1, none⟩ : Oper)]).toArray false) = true) (hit : it < nt) (hT : P.underlying T = some (.map KT ET)) (M1 : AM) (bl : Blk) (l : List (Nat × Value))
    (hpre : AWo P nt (pre ++ [(⟨some it, .range T (.tmp x), T1, p1, af1, none⟩ : Oper)]).toArray pre t m (fun t1 m1 => t1 x = some (.map (some q)) ∧ m1 = M1 ∧ All (fun i v => t1 i = some v) l))
    (hq : M1[q]? = some (some bl)) (hk : isMapK bl.kind = true) {base : Nat} {R0 R : Pl} {w0 w : World} {ac : Act} (hb : base ≤ w0.heap.size) (hp : Post base m0 m R0 R w0 w) (ht : FR R nt t ac.tmps) :
    (Code.region idR (pre ++ [(⟨some it, .range T (.tmp x), T1, p1, af1, none⟩ : Oper)]).toArray false).wpIn (RF ro) 0 P (fun ex a1 w1 => ex = .normal ∧ ∃ R1 r pq, Post base m0 (M1 ++ [none]) R0 R1 w0 w1 ∧ FR R1 nt (fr ((it, itV M1) :: l)) a1.tmps ∧ Df w w1 ac.defers a1.defers ∧ ItAt R1 w1 M1.length q bl.ents.length #[] w.heap.size r pq bl.ents.length) ac w := by
  refine wpIn_reg hro (notLets _ fun a w h => by cases h.1) ?_
  have hsz : (pre ++ [(⟨some it, .range T (.tmp x), T1, p1, af1, none⟩ : Oper)]).toArray.size = pre.length + 1 := by simp
  rw [hsz, List.range_succ]
  have hi := AWo.to' (ops := (pre ++ [(⟨some it, .range T (.tmp x), T1, p1, af1, none⟩ : Oper)]).toArray) pre 0 t m (fun j o hj => by rw [Nat.zero_add, List.getElem?_toArray]; exact get_old _ hj) hpre
  rw [← List.range_eq_range'] at hi
  refine AWi.ok2 _ t m R w ac hi (Nat.le_trans hb hp.size) hp.rep ht ?_
  rintro R' t' m' a' w' k1 k2 k3 ⟨k4, rfl, k5⟩
  have hbw : base ≤ w'.heap.size := Nat.le_trans hb (Nat.le_trans hp.size k3.size)
  obtain ⟨pq, hpq, hbr⟩ := k3.rep.rep q bl hq
  obtain ⟨es, hes, hre⟩ := hbr.ents hk
  have hxe : a'.eval (.tmp x) = .map (some pq.block) := by
    have h1 := tmp_of k2 k4
    generalize a'.eval (.tmp x) = y at h1
    cases h1 with
    | mapAt _ p h => rw [hpq] at h; injection h with h; rw [h]
  have hel : es.size = bl.ents.length := by rw [hre.1]; simp
  refine wpOps_one (i := pre.length) (by simp; rfl) rfl (v' := .pointer (some ⟨w'.heap.size, 0, none⟩)) (w' := w'.alloc (.mapIter (some pq.block) es.size #[] es.size)) (.inl ?_) ?_
  · rw [show execOp a'.eval (⟨some it, .range T (.tmp x), T1, p1, af1, none⟩ : Oper) = _ from rfl]
    simp [execOp, hxe, Instr.range, run_underlying hT, MapKept.run_getObj_map hes, newObj, Sem.run, Result.andThen]
  · have q1 := Post.object k3.rep (.mapIter (some pq.block) es.size #[] es.size)
    have q2 := Post.none_put q1.rep ⟨w'.heap.size, 0, 0⟩
    have q3 := (hp.trans k3).trans (q1.trans q2)
    refine ⟨rfl, _, w'.heap.size, pq, q3, ?_, ?_, ?_⟩
    · refine FR.cons (t := t') ?_ k5
      refine (k2.mono q2.le).put hit ?_
      exact .ptr m'.length 0 ⟨w'.heap.size, 0, 0⟩ (Pl.put_same _ _ _)
    · show Df w _ ac.defers (a'.put (some it) _).defers
      rw [put_defers, k1]
      exact Df.of_post hp.rep (k3.trans (q1.trans q2))
    · refine ⟨Pl.put_same _ _ _, q2.le _ _ hpq, ?_, Nat.le_refl _, k3.size⟩
      rw [← hel]
      show (w'.heap.push _)[w'.heap.size]? = _
      simp
end
section
variable {P : Program} {nt : Nat} {m0 m : AM}
theorem al_heap {w w1 : World} (h : w1 = w ∨ w1 = w.drew) (k : Nat) : w1.heap[k]? = w.heap[k]? := by rcases h with rfl | rfl <;> rfl
theorem al_size {w w1 : World} (h : w1 = w ∨ w1 = w.drew) : w1.heap.size = w.heap.size := by rcases h with rfl | rfl <;> rfl
theorem al_os {w w1 : World} (h : w1 = w ∨ w1 = w.drew) : w1.os = w.os ∧ w1.tape = w.tape ∧ w1.output = w.output := by rcases h with rfl | rfl <;> exact ⟨rfl, rfl, rfl⟩
theorem setBlock_other {w : World} {r : Nat} {o : Obj} {k : Nat} (h : k ≠ r) : (setBlock w r o).heap[k]? = w.heap[k]? := by
  show (w.heap.setIfInBounds r o)[k]? = _
  rw [Array.getElem?_setIfInBounds_ne (Ne.symm h)]
theorem setBlock_same {w : World} {r : Nat} {o : Obj} (h : r < w.heap.size) : (setBlock w r o).heap[r]? = some o := by
  show (w.heap.setIfInBounds r o)[r]? = _
  simp [h]
theorem setBlock_size {w : World} {r : Nat} {o : Obj} : (setBlock w r o).heap.size = w.heap.size := by
  show (w.heap.setIfInBounds r o).size = _
  simp
theorem Post.iter {base : Nat} {R0 R : Pl} {w0 w w1 : World} {r : Nat} {mo : Option Nat} {s : Nat} {sn : Array Nat} {c : Nat} {o : Obj} (h : Post base m0 m R0 R w0 w) (hr : w.heap[r]? = some (.mapIter mo s sn c)) (hlow : w0.heap.size ≤ r) (hw : w1 = w ∨ w1 = w.drew) : Post base m0 m R0 R w0 (setBlock w1 r o) := by
  obtain ⟨o1, o2, o3⟩ := al_os hw
  have hk : ∀ k, k ≠ r → (setBlock w1 r o).heap[k]? = w.heap[k]? := fun k hk => by rw [setBlock_other hk, al_heap hw]
  refine ⟨h.le, ⟨h.rep.none_, fun i b hi => ?_, h.rep.apart⟩, ?_, ?_, ?_, ?_, fun k hk' ho => ?_, h.sub⟩
  · obtain ⟨p, q1, q2⟩ := h.rep.rep i b hi
    exact ⟨p, q1, brep_iter q2 hr (by rw [setBlock_size, al_size hw]; exact Nat.le_refl _) hk⟩
  · exact (show w1.os = w0.os from o1.trans h.os)
  · exact (show w1.tape = w0.tape from o2.trans h.tape)
  · exact (show w1.output = w0.output from o3.trans h.output)
  · rw [setBlock_size, al_size hw]; exact h.size
  · rw [hk k (by omega)]; exact h.keep k hk' ho
theorem Df.iter {w w' w1 : World} {ds ds' : List Deferred} {r : Nat} {mo : Option Nat} {s : Nat} {sn : Array Nat} {c : Nat} {o : Obj} (h : Df w w' ds ds') (hr : w'.heap[r]? = some (.mapIter mo s sn c)) (hw : w1 = w' ∨ w1 = w'.drew) : Df w (setBlock w1 r o) ds ds' := by
  have hk : ∀ k, w'.heap[k]? = some (Obj.deferred (some [])) → (setBlock w1 r o).heap[k]? = some (Obj.deferred (some [])) := fun k hk => by
    rw [setBlock_other (fun e => by rw [e, hr] at hk; injection hk with hk; cases hk), al_heap hw]; exact hk
  obtain ⟨Ds, e1, e2, e3⟩ := h.marks
  exact ⟨⟨Ds, e1, e2, fun D hD => ⟨(e3 D hD).1, hk D (e3 D hD).2⟩⟩, fun k h' => hk k (h.kd k h'), by rw [setBlock_size, al_size hw]; exact h.size⟩
theorem FR.putw {R : Pl} {t : Fm} {a : Act} {d : Nat} {v : Value} (h : FR R nt t a.tmps) (hd : t d = none) : FR R nt t (a.put (some d) v).tmps := by
  have hs := h.size
  refine ⟨by show (a.tmps.setIfInBounds d _).size = nt; simpa using hs, fun i x hi => ?_⟩
  have e : i ≠ d := fun e => by rw [e, hd] at hi; cases hi
  have := h.rel i x hi
  show Rel R x ((a.tmps.setIfInBounds d _).getD i undef)
  simp only [Array.getD_eq_getD_getElem?, Array.getElem?_setIfInBounds_ne (Ne.symm e)] at this ⊢
  exact this
theorem eval_put {R : Pl} {t : Fm} {a : Act} {d : Nat} {v : Value} (h : FR R nt t a.tmps) (hd : d < nt) : (a.put (some d) v).eval (.tmp d) = v := by
  have hs := h.size
  show (a.tmps.setIfInBounds d v).getD d undef = v
  simp [hs, hd]
theorem next_reg {ro : Option Nat} {idN it sN c T2 T3 q : Nat} {p2 p3 : String} {af2 af3 : Array Edge} (hro : ro = none ∨ nrB (.region idN #[(⟨some sN, .next (.tmp it) false, T2, p2, af2, none⟩ : Oper), (⟨some c, .extract (.tmp sN) 0, T3, p3, af3, none⟩ : Oper)] false) = true) (hsN : sN < nt) (hc : c < nt) (hne : c ≠ sN) {M1 N : AM} {bl : Blk} {t : Fm} (ht : t it = some (itV M1)) (htN : t sN = none) (htc : t c = none)
    (hq : (M1 ++ none :: N)[q]? = some (some bl)) (hk : isMapK bl.kind = true) {base : Nat} {R0 R : Pl} {w0 wd w : World} {ds : List Deferred} {a : Act} {seen : Array Nat} {r c0 : Nat} {pq : Sim.Place} (hp : Post base m0 (M1 ++ none :: N) R0 R w0 w) (hf : FR R nt t a.tmps) (hd : Df wd w ds a.defers) (hi : ItAt R w M1.length q bl.ents.length seen w0.heap.size r pq c0) :
    (Code.region idN #[(⟨some sN, .next (.tmp it) false, T2, p2, af2, none⟩ : Oper), (⟨some c, .extract (.tmp sN) 0, T3, p3, af3, none⟩ : Oper)] false).wpIn (RF ro) 0 P (fun ex a2 w2 => ex = .normal ∧ FR R nt t a2.tmps ∧ Df wd w2 ds a2.defers ∧ Post base m0 (M1 ++ none :: N) R0 R w0 w2 ∧
      ((a2.eval (.tmp c) = .bool false ∧ (∀ j, j < bl.ents.length → seen.contains j = true)) ∨ (a2.eval (.tmp c) = .bool true ∧ ∃ j, j < bl.ents.length ∧ seen.contains j = false ∧ ItAt R w2 M1.length q bl.ents.length (seen.push j) w0.heap.size r pq bl.ents.length))) a w := by
  refine wpIn_reg hro (notLets _ fun a w h => by cases h.1) ?_
  obtain ⟨pq', hpq, hbr⟩ := hp.rep.rep q bl hq
  rw [hi.map] at hpq; injection hpq with hpq; subst hpq
  obtain ⟨es, hes, hre⟩ := hbr.ents hk
  have hel : es.size = bl.ents.length := by rw [hre.1]; simp
  obtain ⟨hbo, hnd⟩ := RelE.born hre
  have hie : a.eval (.tmp it) = .pointer (some ⟨r, 0, none⟩) := by
    have h1 := tmp_of hf ht
    unfold itV at h1
    generalize a.eval (.tmp it) = y at h1
    cases h1 with
    | ptr _ _ p h => rw [hi.at_] at h; injection h with h; subst h; rfl
  have hl2 : List.range (#[(⟨some sN, .next (.tmp it) false, T2, p2, af2, none⟩ : Oper), (⟨some c, .extract (.tmp sN) 0, T3, p3, af3, none⟩ : Oper)] : Array Oper).size = [0, 1] := rfl
  rw [hl2]
  rcases run_next_at (P := P) w T2 r pq.block bl.ents.length c0 seen es es.size hi.obj hes (fun x hx => by exact (hbo x hx).1) hi.le with ⟨h0, hrun⟩ | ⟨e, he, w1, hw1, hrun⟩
  · refine wpOps_one (i := 0) rfl rfl (v' := .tuple #[.bool false]) (w' := w) (.inl ?_) ?_
    · simp [execOp, hie, hrun]
    · refine wpOps_one (i := 1) rfl rfl (v' := .bool false) (w' := w) (.inl ?_) ?_
      · simp [execOp, eval_put hf hsN, Instr.extract]
      · refine ⟨rfl, (hf.putw htN).putw htc, hd, hp, .inl ⟨eval_put (hf.putw htN) hc, fun j hj => ?_⟩⟩
        have hj' : j < es.toList.length := by rw [← hre.1]; exact hj
        obtain ⟨x, h1, _, h3, _⟩ := hre.2 j bl.ents[j].1 bl.ents[j].2 (List.getElem?_eq_getElem hj)
        have hmem : x ∈ es := by
          have := List.mem_of_getElem? h1
          simpa using this
        have hf0 : leftOf es seen = #[] := Array.eq_empty_of_size_eq_zero h0
        unfold leftOf at hf0
        rw [Array.filter_eq_empty_iff] at hf0
        have := hf0 x hmem
        rw [h3] at this
        simpa using this
  · have hmem : e ∈ es.toList ∧ seen.contains e.born = false := by
      unfold leftOf at he
      simp only [Array.toList_filter, List.mem_filter] at he
      exact ⟨he.1, by simpa using he.2⟩
    obtain ⟨hj, _⟩ := hbo e hmem.1
    have hrl : r < w.heap.size := (Array.getElem?_eq_some_iff.1 hi.obj).1
    rw [hel] at hrun
    refine wpOps_one (i := 0) rfl rfl (v' := .tuple #[.bool true, e.key, e.val]) (w' := setBlock w1 r (.mapIter (some pq.block) bl.ents.length (seen.push e.born) bl.ents.length)) (.inl ?_) ?_
    · simp [execOp, hie, hrun]
    · refine wpOps_one (i := 1) rfl rfl (v' := .bool true) (w' := setBlock w1 r (.mapIter (some pq.block) bl.ents.length (seen.push e.born) bl.ents.length)) (.inl ?_) ?_
      · simp [execOp, eval_put hf hsN, Instr.extract]
      · refine ⟨rfl, (hf.putw htN).putw htc, hd.iter hi.obj hw1, Post.iter hp hi.obj hi.low hw1, .inr ⟨eval_put (hf.putw htN) hc, e.born, hj, hmem.2, hi.at_, hi.map, ?_, Nat.le_refl _, hi.low⟩⟩
        exact setBlock_same (by rw [al_size hw1]; exact hrl)
/-- The entry of the round. -/
theorem entry_wp {it sE T4 q : Nat} {p4 : String} {af4 : Array Edge} {ops : Array Oper} {rest : List Nat} {QQ : Exit → Act → World → Prop} (ho : ops[0]? = some (⟨some sE, .entry (.tmp it), T4, p4, af4, none⟩ : Oper)) (hsE : sE < nt) {M1 Mk : AM} {bl : Blk} {t : Fm} (ht : t it = some (itV M1)) 
    (hq : Mk[q]? = some (some bl)) (hk : isMapK bl.kind = true) (hg : ∀ e ∈ bl.ents, g1 e.1 = true) {base : Nat} {R : Pl} {w : World} {a : Act} {seen : Array Nat} {r low j : Nat} {pq : Sim.Place} (hm : MRep base R Mk w) (hf : FR R nt t a.tmps) (hj : j < bl.ents.length) (hi : ItAt R w M1.length q bl.ents.length (seen.push j) low r pq bl.ents.length)
    (h : ∀ a', a'.defers = a.defers → (∃ k v, bl.ents[j]? = some (k, v) ∧ FR R nt (put t sE (.tuple #[k, v])) a'.tmps) → wpOps P ops QQ rest a' w) : wpOps P ops QQ (0 :: rest) a w := by
  obtain ⟨pq', hpq, hbr⟩ := hm.rep q bl hq
  rw [hi.map] at hpq; injection hpq with hpq; subst hpq
  obtain ⟨es, hes, hre⟩ := hbr.ents hk
  have hel : es.size = bl.ents.length := by rw [hre.1]; simp
  obtain ⟨hbo, hnd⟩ := RelE.born hre
  have hie : a.eval (.tmp it) = .pointer (some ⟨r, 0, none⟩) := by
    have h1 := tmp_of hf ht
    unfold itV at h1
    generalize a.eval (.tmp it) = y at h1
    cases h1 with
    | ptr _ _ p h => rw [hi.at_] at h; injection h with h; subst h; rfl
  obtain ⟨e, h1, h2, h3, h4⟩ := hre.2 j bl.ents[j].1 bl.ents[j].2 (List.getElem?_eq_getElem hj)
  have hrun := run_entry_at (P := P) w r pq.block bl.ents.length seen es es.size e (by rw [h3, hel]; exact hi.obj) hes (List.mem_of_getElem? h1) hnd
  refine wpOps_one ho rfl (v' := .tuple #[e.key, e.val]) (w' := w) (.inl ?_) (h _ rfl ⟨_, _, List.getElem?_eq_getElem hj, hf.put hsE ?_⟩)
  · simp [execOp, hie, hrun]
  · rw [h2]
    refine .tuple _ _ rfl fun i hi' => ?_
    simp at hi'
    rcases i with _ | _ | i
    · simpa using g1_rel (R := R) (hg _ (List.getElem_mem hj))
    · simpa using h4
    · omega
end
section
variable {P : Program} {nt : Nat} {m0 m : AM} {t : Fm} {Q : AEx → Fm → AM → Prop}
/-- What a round of a range over a map ends in. -/
def RoundQ (Q : AEx → Fm → AM → Prop) (M1 : AM) (l : List (Nat × Value)) (Ok : Prop) : AEx → Fm → AM → Prop
  | .normal, t, m => Ok ∧ (∃ N, m = M1 ++ none :: N) ∧ All (fun i v => t i = some v) l
  | .ret, t, m => Q .ret t m
  | .exit _, _, _ => False
set_option maxHeartbeats 1000000 in
theorem AW.rangeMap {idR idN idE b d it x sN c sE T T1 T2 T3 T4 : Nat} {KT ET : TypeId} {p1 p2 p3 p4 : String} {af1 af2 af3 af4 : Array Edge} {pre opsE : List Oper} {body : Code} (hit : Nat.blt it nt = true) (hsN : Nat.blt sN nt = true) (hc : Nat.blt c nt = true) (hsE : Nat.blt sE nt = true) (hT : P.underlying T = some (.map KT ET))
    (hne : Nat.beq it sN = false ∧ Nat.beq it c = false ∧ Nat.beq it sE = false) (hcN : Nat.beq c sN = false) (M1 : AM) (q : Nat) (bl : Blk) (l : List (Nat × Value)) (Ok : Value → Value → Prop) (hl : ∀ x ∈ l, x.1 ≠ it ∧ x.1 ≠ sN ∧ x.1 ≠ c ∧ x.1 ≠ sE)
    (hpre : AWo P nt (pre ++ [(⟨some it, .range T (.tmp x), T1, p1, af1, none⟩ : Oper)]).toArray pre t m (fun t1 m1 => t1 x = some (.map (some q)) ∧ m1 = M1 ∧ All (fun i v => t1 i = some v) l))
    (hq : M1[q]? = some (some bl)) (hk : isMapK bl.kind = true) (hg : ∀ e ∈ bl.ents, g1 e.1 = true)
    (hround : ∀ k v N, (k, v) ∈ bl.ents → AWo P nt ((⟨some sE, .entry (.tmp it), T4, p4, af4, none⟩ : Oper) :: opsE).toArray opsE (put (fr ((it, itV M1) :: l)) sE (.tuple #[k, v])) ((M1 ++ none :: N) ++ []) (fun t' m' => AW P nt (M1 ++ none :: N) body t' m' (RoundQ Q M1 ((it, itV M1) :: l) (Ok k v))))
    (hend : (∀ k v, (k, v) ∈ bl.ents → Ok k v) → ∀ N, Q .normal (fr ((it, itV M1) :: l)) (M1 ++ none :: N)) :
    AW P nt m0 (.seq (.region idR (pre ++ [(⟨some it, .range T (.tmp x), T1, p1, af1, none⟩ : Oper)]).toArray false) (.block b (.loop (.seq (.region idN #[(⟨some sN, .next (.tmp it) false, T2, p2, af2, none⟩ : Oper), (⟨some c, .extract (.tmp sN) 0, T3, p3, af3, none⟩ : Oper)] false) (.seq (.cond (.tmp c) .skip (.exit b)) (.block d (.seq (.region idE ((⟨some sE, .entry (.tmp it), T4, p4, af4, none⟩ : Oper) :: opsE).toArray false) body))))))) t m Q := by
  intro ro hro base R0 w0 R ac w hb h0 hp ht
  obtain ⟨hr1, hr2⟩ := nr2 hro rfl
  obtain ⟨hr3, hr4⟩ := nr2 (show ro = none ∨ nrB (.seq (.region idN #[(⟨some sN, .next (.tmp it) false, T2, p2, af2, none⟩ : Oper), (⟨some c, .extract (.tmp sN) 0, T3, p3, af3, none⟩ : Oper)] false) (.seq (.cond (.tmp c) .skip (.exit b)) (.block d (.seq (.region idE ((⟨some sE, .entry (.tmp it), T4, p4, af4, none⟩ : Oper) :: opsE).toArray false) body)))) = true from hr2) rfl
  obtain ⟨hr5, hr6⟩ := nr2 hr4 rfl
  obtain ⟨hr7, hr8⟩ := nr2 (show ro = none ∨ nrB (.seq (.region idE ((⟨some sE, .entry (.tmp it), T4, p4, af4, none⟩ : Oper) :: opsE).toArray false) body) = true from hr6) rfl
  simp only [Nat.blt_eq] at hit hsN hc hsE
  obtain ⟨n1, n2, n3⟩ := hne
  have n1 : it ≠ sN := fun e => by rw [e] at n1; simp at n1
  have n2 : it ≠ c := fun e => by rw [e] at n2; simp at n2
  have n3 : it ≠ sE := fun e => by rw [e] at n3; simp at n3
  have n4 : c ≠ sN := fun e => by rw [e] at hcN; simp at hcN
  have frn : ∀ d, d ≠ it → (∀ y ∈ l, y.1 ≠ d) → fr ((it, itV M1) :: l) d = none := fun d h1 h2 => by
    cases hx : fr ((it, itV M1) :: l) d with
    | none => rfl
    | some v =>
      have : ∀ (l : List (Nat × Value)), fr l d = some v → ∃ y ∈ l, y.1 = d := by
        intro l
        induction l with
        | nil => intro h; cases h
        | cons y l ih =>
          intro h
          by_cases e : d = y.1
          · exact ⟨y, by simp, e.symm⟩
          · simp only [fr, put_ne _ _ e] at h
            obtain ⟨z, z1, z2⟩ := ih h
            exact ⟨z, by simp [z1], z2⟩
      obtain ⟨y, y1, y2⟩ := this _ hx
      rcases List.mem_cons.1 y1 with rfl | y1
      · exact absurd y2.symm h1
      · exact absurd y2 (h2 y y1)
  have hti : fr ((it, itV M1) :: l) it = some (itV M1) := put_same _ _ _
  have htN := frn sN (Ne.symm n1) fun y hy => (hl y hy).2.1
  have htc := frn c (Ne.symm n2) fun y hy => (hl y hy).2.2.1
  have hqa : ∀ N : AM, (M1 ++ N)[q]? = some (some bl) := fun N => get_old _ hq
  refine wpIn_seq (wpIn_mono (range_reg hr1 hit hT M1 bl l hpre hq hk hb hp ht) ?_)
  rintro ex a1 w1 ⟨rfl, R1, r, pq, p1, f1, d1, i1⟩
  refine wpIn_block ?_
  let J : Nat → Act → World → Prop := fun u a' w' => ∃ N seen c0 R', Post base m0 (M1 ++ none :: N) R0 R' w0 w' ∧ FR R' nt (fr ((it, itV M1) :: l)) a'.tmps ∧ Df w w' ac.defers a'.defers ∧ ItAt R' w' M1.length q bl.ents.length seen w0.heap.size r pq c0 ∧ (∀ j k v, seen.contains j = true → bl.ents[j]? = some (k, v) → Ok k v) ∧ unseen bl.ents.length seen = u
  have hJ0 : ∃ u, J u a1 w1 := ⟨_, [], #[], _, R1, p1, f1, d1, ⟨i1.at_, i1.map, i1.obj, i1.le, Nat.le_trans hp.size i1.low⟩, fun j k v h => by simp at h, rfl⟩
  open Classical in
  let μ : Act → World → Nat := fun a w => if h : ∃ k, J k a w then Classical.choose (least _ h) else 0
  have hμ : ∀ a w (h : ∃ k, J k a w), J (μ a w) a w ∧ ∀ k, J k a w → μ a w ≤ k := fun a w h => by
    have hs := Classical.choose_spec (least _ h)
    have e : μ a w = Classical.choose (least _ h) := dif_pos h
    rw [e]
    exact ⟨hs.1, fun k hk => Nat.le_of_not_lt fun hlt => hs.2 k hlt hk⟩
  refine wpIn_loop (fun a w => ∃ k, J k a w) μ hJ0 fun a1 w1 hJ => ?_
  obtain ⟨⟨N, seen, c0, R', p1, f1, d1, i1, o1, u1⟩, _⟩ := hμ a1 w1 hJ
  refine wpIn_seq (wpIn_mono (next_reg hr3 hsN hc n4 hti htN htc (hqa _) hk p1 f1 d1 i1) ?_)
  rintro ex a2 w2 ⟨rfl, f2, d2, p2, ⟨e2, hall⟩ | ⟨e2, j, hj, hsj, i2⟩⟩
  · refine wpIn_seq (wpIn_cond_split e2 (fun e => by cases e) fun _ => wpIn_exit ?_)
    simp only [Exit.then, Exit.inBlock, if_true]
    refine ⟨.normal, _, _, R', rfl, d2, p2, f2, hend (fun k v hkv => ?_) N⟩
    obtain ⟨j, hj, e⟩ := List.getElem_of_mem hkv
    exact o1 j k v (hall j hj) (by rw [List.getElem?_eq_getElem hj, e])
  · refine wpIn_seq (wpIn_cond_split e2 (fun _ => wpIn_skip ?_) fun e => by cases e)
    refine wpIn_block ?_
    have hb2 := Nat.le_trans hb p2.size
    have hE : (Code.region idE ((⟨some sE, .entry (.tmp it), T4, p4, af4, none⟩ : Oper) :: opsE).toArray false).wpIn (RF ro) 0 P (fun ex a3 w3 => ex = .normal ∧ ∃ k v t' m' R3, bl.ents[j]? = some (k, v) ∧ AW P nt (M1 ++ none :: N) body t' m' (RoundQ Q M1 ((it, itV M1) :: l) (Ok k v)) ∧ Post base (M1 ++ none :: N) m' R' R3 w2 w3 ∧ FR R3 nt t' a3.tmps ∧ a3.defers = a2.defers) a2 w2 := by
      refine wpIn_reg hr7 (notLets _ fun a w h => by cases h.1) ?_
      have hlr : List.range ((⟨some sE, .entry (.tmp it), T4, p4, af4, none⟩ : Oper) :: opsE).toArray.size = 0 :: List.range' 1 opsE.length := by
        rw [List.size_toArray, List.length_cons, List.range_eq_range', List.range'_succ]
      rw [hlr]
      refine entry_wp (Mk := M1 ++ none :: N) (T4 := T4) (p4 := p4) (af4 := af4) (by simp) hsE hti (hqa _) hk hg p2.rep f2 hj i2 ?_
      rintro a' k1 ⟨k, v, hkv, f3⟩
      have hr := hround k v N (List.mem_of_getElem? hkv)
      rw [List.append_nil] at hr
      refine AWi.ok _ _ _ R' w2 a' (AWo.to' opsE 1 _ _ (fun j o hj => by rw [List.getElem?_toArray, Nat.add_comm, List.getElem?_cons_succ]; exact hj) hr) hb2 p2.rep f3 ?_
      intro R3 t3 m3 a3 w3 k2 k3 k4 k5
      exact ⟨rfl, k, v, t3, m3, R3, hkv, k5, k4, k3, k2.trans k1⟩
    refine wpIn_seq (wpIn_mono hE ?_)
    rintro ex a3 w3 ⟨rfl, k, v, t3, m3, R3, hkv, haw, p3, f3, e3⟩
    have hrep2 := p2.rep
    refine wpIn_mono (haw ro hr8 base R' w2 R3 a3 w3 hb2 hrep2 p3 f3) ?_
    rintro ex a4 w4 ⟨e, t4, m4, R4, rfl, d4, p4, f4, h4⟩
    have hD : Df w w4 ac.defers a4.defers := d2.trans (by rw [← e3]; exact (Df.of_post hrep2 p3).trans d4)
    cases e with
    | normal =>
      obtain ⟨ok, ⟨N', rfl⟩, hal⟩ := h4
      have hJ' : J (unseen bl.ents.length (seen.push j)) a4 w4 := by
        refine ⟨N', seen.push j, _, R4, p2.trans p4, f4.weak (fr_all hal), hD, ⟨p4.le _ _ i2.at_, p4.le _ _ i2.map, ?_, Nat.le_refl _, i2.low⟩, fun j' k' v' hs hkv' => ?_, rfl⟩
        · rw [p4.keep r (Array.getElem?_eq_some_iff.1 i2.obj).1 (owned_iter hrep2 i2.obj)]
          exact i2.obj
        · simp only [Array.contains_push, Bool.or_eq_true] at hs
          rcases hs with hs | hs
          · exact o1 j' k' v' hs hkv'
          · have : j' = j := by simpa using hs
            subst this
            rw [hkv] at hkv'
            simp only [Option.some.injEq, Prod.mk.injEq] at hkv'
            obtain ⟨rfl, rfl⟩ := hkv'
            exact ok
      exact ⟨⟨_, hJ'⟩, Nat.lt_of_le_of_lt ((hμ a4 w4 ⟨_, hJ'⟩).2 _ hJ') (by rw [← u1]; exact unseen_push hj hsj)⟩
    | exit i => exact h4.elim
    | ret => exact ⟨.ret, t4, m4, R4, rfl, hD, p2.trans p4, f4, h4⟩
theorem AW.rangeMapL {idR idN idE b d it x sN c sE T T1 T2 T3 T4 n : Nat} {KT ET : TypeId} {p1 p2 p3 p4 : String} {af1 af2 af3 af4 : Array Edge} {opsR opsE : List Oper} {body : Code} (hs : opsR = opsR.take n ++ [(⟨some it, .range T (.tmp x), T1, p1, af1, none⟩ : Oper)]) (hit : Nat.blt it nt = true) (hsN : Nat.blt sN nt = true) (hc : Nat.blt c nt = true) (hsE : Nat.blt sE nt = true) (hT : P.underlying T = some (.map KT ET))
    (hne : Nat.beq it sN = false ∧ Nat.beq it c = false ∧ Nat.beq it sE = false) (hcN : Nat.beq c sN = false) (M1 : AM) (q : Nat) (bl : Blk) (l : List (Nat × Value)) (Ok : Value → Value → Prop) (hl : ∀ x ∈ l, x.1 ≠ it ∧ x.1 ≠ sN ∧ x.1 ≠ c ∧ x.1 ≠ sE)
    (hq : M1[q]? = some (some bl)) (hk : isMapK bl.kind = true) (hg : ∀ e ∈ bl.ents, g1 e.1 = true)
    (hpre : AWo P nt opsR.toArray (opsR.take n) t m (fun t1 m1 => t1 x = some (.map (some q)) ∧ m1 = M1 ∧ All (fun i v => t1 i = some v) l))
    (hround : ∀ k v N, (k, v) ∈ bl.ents → AWo P nt ((⟨some sE, .entry (.tmp it), T4, p4, af4, none⟩ : Oper) :: opsE).toArray opsE (put (fr ((it, itV M1) :: l)) sE (.tuple #[k, v])) ((M1 ++ none :: N) ++ []) (fun t' m' => AW P nt (M1 ++ none :: N) body t' m' (RoundQ Q M1 ((it, itV M1) :: l) (Ok k v))))
    (hend : (∀ k v, (k, v) ∈ bl.ents → Ok k v) → ∀ N, Q .normal (fr ((it, itV M1) :: l)) (M1 ++ none :: N)) :
    AW P nt m0 (.seq (.region idR opsR.toArray false) (.block b (.loop (.seq (.region idN #[(⟨some sN, .next (.tmp it) false, T2, p2, af2, none⟩ : Oper), (⟨some c, .extract (.tmp sN) 0, T3, p3, af3, none⟩ : Oper)] false) (.seq (.cond (.tmp c) .skip (.exit b)) (.block d (.seq (.region idE ((⟨some sE, .entry (.tmp it), T4, p4, af4, none⟩ : Oper) :: opsE).toArray false) body))))))) t m Q := by
  have h := AW.rangeMap (idR := idR) (idN := idN) (idE := idE) (b := b) (d := d) (T1 := T1) (T2 := T2) (T3 := T3) (p1 := p1) (p2 := p2) (p3 := p3) (af1 := af1) (af2 := af2) (af3 := af3) (pre := opsR.take n) (m0 := m0) hit hsN hc hsE hT hne hcN M1 q bl l Ok hl (by rw [← hs]; exact hpre) hq hk hg hround hend
  rw [← hs] at h
  exact h
end
end Go.Proofs.Ytabdnepfcohncaa.Abs
namespace Go.Proofs.Ytabdnepfcohncaa.Abs
set_option linter.unusedSimpArgs false
set_option linter.unusedVariables false
open Go.RowKit
open Go.Proofs.Ytabdnepfcohncaa.Sim
open Go.Proofs
section
variable {nt : Nat} {ops : Array Oper} {t : Fm} {m : AM} {K : Fm → AM → Prop} {d T : Nat} {p : String} {af : Array Edge}
theorem rel_slot {R : Pl} {k : Int × Int} {v : Value} (h : Rel R (slotV k) v) : v = slotV k := g1_eq (slot_g1 k) h
set_option maxRecDepth 100000 in
theorem Step.mapSet {x y z : Operand} {q : Nat} {k : Int × Int} {b : Bool} {E : Ents} (hx : evo t x = some (.map (some q))) (hy : evo t y = some (slotV k)) (hz : evo t z = some (.bool b)) (hq : m[q]? = some (some (mapB E))) (hK : K t (m.set q (some (mapB (setE E k b))))) :
    Step Try.prog nt ops ⟨none, .mapUpdate 136 x y z, T, p, af, none⟩ t m K := by
  refine .l0 rfl rfl rfl (by simp [Op.operands, hx, hy, hz]) ?_
  intro base R w a Q next hb hm hev hn
  have h1 := hev x (by simp [Op.operands])
  have h2 := hev y (by simp [Op.operands])
  have h3 := hev z (by simp [Op.operands])
  rw [evD_of hx] at h1
  rw [evD_of hy] at h2
  rw [evD_of hz] at h3
  have e2 := rel_slot h2
  have e3 : a.eval z = .bool b := by generalize a.eval z = u at h3; cases h3; rfl
  obtain ⟨pq, e1, hpq⟩ : ∃ pq, a.eval x = .map (some pq.block) ∧ R q = some pq := by
    generalize a.eval x = u at h1
    cases h1 with
    | mapAt _ p h => exact ⟨p, rfl, h⟩
  obtain ⟨es, hob, hre, post⟩ := post_map hm hq hpq
  have hl := RelE.len hre
  have hfind := run_findS w k E es.toList hl fun j e hj => by obtain ⟨x, q1, q2, _⟩ := RelE.at_ hre j e hj; exact ⟨x, q1, q2⟩
  have hck := run_chk false k w
  rcases hfind with ⟨j, x', i1, i2, i3⟩ | ⟨i1, i3⟩
  · obtain ⟨b', hj⟩ := idxE_some i1
    have hset : setE E k b = E.set j (k, b) := by unfold setE; rw [i1]
    rw [hset] at hK
    obtain ⟨x2, w1, w2, _, _⟩ := RelE.at_ hre j _ hj
    rw [i2] at w1; injection w1 with w1; subst w1
    have hx2 : es[j]? = some x' := by simpa using i2
    have hp := post (E.set j (k, b)) _ (RelE.setv (b := b) hre hj)
    refine wp_of_does rfl (v' := undef) (.inr ⟨?_, rfl⟩) (hn R undef undef _ _ (.undef R) hp hK)
    simp [execOp, e1, e2, e3, Instr.mapUpdate, run_underlying un136, MapKept.run_getObj_map hob, hck, i3, hx2, w2, run_stays, MapKept.run_setObj_map _ hob, Result.andThen]
  · have hset : setE E k b = E ++ [(k, b)] := by unfold setE; rw [i1]
    rw [hset] at hK
    have hp := post (E ++ [(k, b)]) _ (RelE.push hre k b)
    refine wp_of_does rfl (v' := undef) (.inr ⟨?_, rfl⟩) (hn R undef undef _ _ (.undef R) hp hK)
    simp [execOp, e1, e2, e3, Instr.mapUpdate, run_underlying un136, MapKept.run_getObj_map hob, hck, i3, MapKept.run_setObj_map _ hob, Result.andThen]
set_option maxRecDepth 100000 in
theorem Step.mapEnt {x y : Operand} {q : Nat} {k : Int × Int} {E : Ents} (hx : evo t x = some (.map (some q))) (hy : evo t y = some (slotV k)) (hq : m[q]? = some (some (mapB E))) (hlt : Nat.blt d nt = true)
    (hK : K (put t d (.tuple #[.bool (valE E k), .int .i64 (atE E k : Nat)])) (m.set q (some (mapB (addK E k))))) : Step Try.prog nt ops ⟨some d, .mapEntry 136 x y, T, p, af, none⟩ t m K := by
  refine .l rfl rfl hlt rfl (by simp [Op.operands, hx, hy]) ?_
  intro base R w a Q next hb hm hev hn
  have h1 := hev x (by simp [Op.operands])
  have h2 := hev y (by simp [Op.operands])
  rw [evD_of hx] at h1
  rw [evD_of hy] at h2
  have e2 := rel_slot h2
  obtain ⟨pq, e1, hpq⟩ : ∃ pq, a.eval x = .map (some pq.block) ∧ R q = some pq := by
    generalize a.eval x = u at h1
    cases h1 with
    | mapAt _ p h => exact ⟨p, rfl, h⟩
  obtain ⟨es, hob, hre, post⟩ := post_map hm hq hpq
  have hl := RelE.len hre
  have hfind := run_findS w k E es.toList hl fun j e hj => by obtain ⟨x, q1, q2, _⟩ := RelE.at_ hre j e hj; exact ⟨x, q1, q2⟩
  have hck := run_chk false k w
  have htup : ∀ (b : Bool) (j : Int), Rel R (.tuple #[.bool b, .int .i64 j]) (.tuple #[.bool b, .int .i64 j]) := fun b j => g1_rel (by simp [g1, g0])
  rcases hfind with ⟨j, x', i1, i2, i3⟩ | ⟨i1, i3⟩
  · obtain ⟨b', hj⟩ := idxE_some i1
    have e4 : addK E k = E := by unfold addK; rw [i1]
    have e5 : valE E k = b' := by unfold valE; rw [i1]; simp [hj]
    have e6 : atE E k = j := by unfold atE; rw [i1]; rfl
    rw [e4, e5, e6] at hK
    obtain ⟨x2, w1, w2, w3, w4⟩ := RelE.at_ hre j _ hj
    rw [i2] at w1; injection w1 with w1; subst w1
    have hx2 : es[j]? = some x' := by simpa using i2
    have hp := post E _ (RelE.keyv hre hj)
    refine wp_of_does rfl (v' := .tuple #[.bool b', .int .i64 (j : Nat)]) (.inl ?_) (hn R _ _ _ _ (htup _ _) hp hK)
    simp [execOp, e1, e2, Instr.mapEntry, run_underlying un136, MapKept.run_getObj_map hob, hck, i3, hx2, w2, w3, w4, run_stays, MapKept.run_setObj_map _ hob, Result.andThen, goInt]
  · have e4 : addK E k = E ++ [(k, false)] := by unfold addK; rw [i1]
    have e5 : valE E k = false := by unfold valE; rw [i1]
    have e6 : atE E k = es.size := by unfold atE; rw [i1]; simp at hl; exact hl.symm
    rw [e4, e5, e6] at hK
    have hp := post (E ++ [(k, false)]) _ (RelE.push hre k false)
    have hz : (zeroValue 4).run Try.prog w = .ok (.bool false) w := by
      have : zeroG Try.prog 4 = some (.bool false) := by kernel_rfl
      exact (zeroG_run (R := R) this).2 w
    refine wp_of_does rfl (v' := .tuple #[.bool false, .int .i64 (es.size : Nat)]) (.inl ?_) (hn R _ _ _ _ (htup _ _) hp hK)
    simp [execOp, e1, e2, Instr.mapEntry, run_underlying un136, MapKept.run_getObj_map hob, hck, i3, hz, MapKept.run_setObj_map _ hob, Result.andThen, goInt]
set_option maxRecDepth 100000 in
theorem Step.entStore {x y z : Operand} {q j : Nat} {b : Bool} {E : Ents} (hx : evo t x = some (.map (some q))) (hy : evo t y = some (.int .i64 (j : Nat))) (hz : evo t z = some (.bool b)) (hq : m[q]? = some (some (mapB E))) (hj : j < E.length) (hK : K t (m.set q (some (mapB (putE E j b))))) :
    Step Try.prog nt ops ⟨none, .entryStore 136 x y z, T, p, af, none⟩ t m K := by
  refine .l0 rfl rfl rfl (by simp [Op.operands, hx, hy, hz]) ?_
  intro base R w a Q next hb hm hev hn
  have h1 := hev x (by simp [Op.operands])
  have h2 := hev y (by simp [Op.operands])
  have h3 := hev z (by simp [Op.operands])
  rw [evD_of hx] at h1
  rw [evD_of hy] at h2
  rw [evD_of hz] at h3
  have e2 : a.eval y = .int .i64 (j : Nat) := by generalize a.eval y = u at h2; cases h2; rfl
  have e3 : a.eval z = .bool b := by generalize a.eval z = u at h3; cases h3; rfl
  obtain ⟨pq, e1, hpq⟩ : ∃ pq, a.eval x = .map (some pq.block) ∧ R q = some pq := by
    generalize a.eval x = u at h1
    cases h1 with
    | mapAt _ p h => exact ⟨p, rfl, h⟩
  obtain ⟨es, hob, hre, post⟩ := post_map hm hq hpq
  have hl := RelE.len hre
  have hp := post (putE E j b) _ (RelE.valv (b := b) (j := j) hre)
  have hfi : es.findIdx? (fun e => (e.born : Int) == (j : Int)) = some j := by
    have hjs : j < es.size := by simp at hl; omega
    rw [Array.findIdx?_eq_some_iff_getElem]
    have hbo : ∀ i (hi : i < es.size), es[i].born = i := fun i hi => by
      obtain ⟨x, q1, _, q3, _⟩ := RelE.at_ hre i E[i] (List.getElem?_eq_getElem (by simp at hl; omega))
      have : es[i]? = some x := by simpa using q1
      rw [Array.getElem?_eq_getElem hi] at this
      injection this with this
      rw [this, q3]
    refine ⟨hjs, by rw [hbo j hjs]; simp, fun i hi => ?_⟩
    rw [hbo i (by omega)]
    simp
    omega
  refine wp_of_does rfl (v' := undef) (.inr ⟨?_, rfl⟩) (hn R undef undef _ _ (.undef R) hp hK)
  simp [execOp, e1, e2, e3, Instr.entryStore, MapKept.run_getObj_map hob, asInt, asIntOf, hfi, MapKept.run_setObj_map _ hob, Result.andThen]
theorem Step.newMap {M L L' : AM} (k : Nat) (hk : L.length = k) (hlt : Nat.blt d nt = true) (hL : L ++ [some (mapB [])] = L') (hK : K (put t d (.map (some (M.length + k)))) (M ++ L')) : Step Try.prog nt ops ⟨some d, .makeMap 136 none, T, p, af, none⟩ t (M ++ L) K := by
  subst hL
  refine .l rfl rfl hlt rfl (by simp [Op.operands]) (loudN hk rfl (v := .map (some (M.length + k))) ?_ hK)
  simp only [aloud]
  rw [set_new_at M L hk]
  rfl
theorem Step.mapSetP {x y z : Operand} {q : Nat} {u v : Int} {b : Bool} {E : Ents} (hx : evo t x = some (.map (some q))) (hy : evo t y = some (.agg #[.int .i64 u, .int .i64 v])) (hz : evo t z = some (.bool b)) (hq : m[q]? = some (some (mapB E))) (hK : K t (m.set q (some (mapB (setE E (u, v) b))))) :
    Step Try.prog nt ops ⟨none, .mapUpdate 136 x y z, T, p, af, none⟩ t m K := .mapSet hx (k := (u, v)) hy hz hq hK
theorem Step.mapEntP {x y : Operand} {q : Nat} {u v : Int} {E : Ents} (hx : evo t x = some (.map (some q))) (hy : evo t y = some (.agg #[.int .i64 u, .int .i64 v])) (hq : m[q]? = some (some (mapB E))) (hlt : Nat.blt d nt = true)
    (hK : K (put t d (.tuple #[.bool (valE E (u, v)), .int .i64 (atE E (u, v) : Nat)])) (m.set q (some (mapB (addK E (u, v)))))) : Step Try.prog nt ops ⟨some d, .mapEntry 136 x y, T, p, af, none⟩ t m K := .mapEnt hx (k := (u, v)) hy hq hlt hK
end
theorem putE_len (E : Ents) (j : Nat) (b : Bool) : (putE E j b).length = E.length := by simp [putE]
theorem addK_ge (E : Ents) (k : Int × Int) : E.length ≤ (addK E k).length := by
  unfold addK
  cases idxE E k <;> simp
theorem addK_len2 (E : Ents) (k k' : Int × Int) (F : Ents) (hF : F = addK E k := by rfl) : atE E k < (addK F k').length := by
  subst hF
  exact Nat.lt_of_lt_of_le (addK_len E k) (addK_ge _ _)
end Go.Proofs.Ytabdnepfcohncaa.Abs
namespace Go.Proofs.Ytabdnepfcohncaa.Abs
set_option linter.unusedSimpArgs false
set_option linter.unusedVariables false
open Go.RowKit
open Go.Proofs.Ytabdnepfcohncaa.Sim
open Go.Proofs
/-- A clerk. -/
structure Ck where
  at_ : Nat
  V : List Int
  seen : List (Int × Int)
  mv : List Tr
  done : Bool
def ckc (bk at_ : Nat) (V : List Int) (q : Nat) (mvv : Value) (done : Bool) : List Value := .pointer (some ⟨bk, 0, none⟩) :: .int .i64 (at_ : Nat) :: (iv V ++ [.map (some q), mvv, .bool done])
theorem ckc_len {bk at_ q : Nat} {V : List Int} {mvv : Value} {done : Bool} (hV : V.length = 256) : (ckc bk at_ V q mvv done).length = 261 := by simp [ckc, iv_len, hV]
theorem ckc_0 {bk at_ q : Nat} {V : List Int} {mvv : Value} {done : Bool} : (ckc bk at_ V q mvv done)[0]? = some (.pointer (some ⟨bk, 0, none⟩)) := rfl
theorem ckc_1 {bk at_ q : Nat} {V : List Int} {mvv : Value} {done : Bool} : (ckc bk at_ V q mvv done)[1]? = some (.int .i64 (at_ : Nat)) := rfl
theorem ckc_V {bk at_ q : Nat} {V : List Int} {mvv : Value} {done : Bool} {k : Nat} (hk : k < V.length) : (ckc bk at_ V q mvv done)[2 + k]? = some (.int .i64 (V.getD k 0)) := by
  unfold ckc
  rw [show 2 + k = k + 1 + 1 by omega, List.getElem?_cons_succ, List.getElem?_cons_succ, List.getElem?_append_left (by rw [iv_len]; exact hk)]
  exact iv_get hk
theorem ckc_r {bk at_ q : Nat} {V : List Int} {mvv : Value} {done : Bool} (hV : V.length = 256) (j : Nat) : (ckc bk at_ V q mvv done)[258 + j]? = [.map (some q), mvv, .bool done][j]? := by
  unfold ckc
  rw [show 258 + j = (256 + j) + 1 + 1 by omega, List.getElem?_cons_succ, List.getElem?_cons_succ, List.getElem?_append_right (by rw [iv_len]; omega), iv_len, hV, show 256 + j - 256 = j by omega]
theorem ckc_q {bk at_ q : Nat} {V : List Int} {mvv : Value} {done : Bool} (hV : V.length = 256) : (ckc bk at_ V q mvv done)[258]? = some (.map (some q)) := ckc_r hV 0
theorem ckc_m {bk at_ q : Nat} {V : List Int} {mvv : Value} {done : Bool} (hV : V.length = 256) : (ckc bk at_ V q mvv done)[259]? = some mvv := ckc_r hV 1
theorem ckc_d {bk at_ q : Nat} {V : List Int} {mvv : Value} {done : Bool} (hV : V.length = 256) : (ckc bk at_ V q mvv done)[260]? = some (.bool done) := ckc_r hV 2
theorem ckc_set {bk at_ q : Nat} {V : List Int} {mvv : Value} {done : Bool} (hV : V.length = 256) (j : Nat) (v : Value) : (ckc bk at_ V q mvv done).set (258 + j) v = .pointer (some ⟨bk, 0, none⟩) :: .int .i64 (at_ : Nat) :: (iv V ++ [.map (some q), mvv, .bool done].set j v) := by
  unfold ckc
  rw [show 258 + j = (256 + j) + 1 + 1 by omega, List.set_cons_succ, List.set_cons_succ, List.set_append_right _ _ (by rw [iv_len]; omega), iv_len, hV, show 256 + j - 256 = j by omega]
theorem ckc_setM {bk at_ q : Nat} {V : List Int} {mvv u : Value} {done : Bool} (hV : V.length = 256) : (ckc bk at_ V q mvv done).set 259 u = ckc bk at_ V q u done := ckc_set hV 1 u
theorem ckc_setD {bk at_ q : Nat} {V : List Int} {mvv : Value} {done d : Bool} (hV : V.length = 256) : (ckc bk at_ V q mvv done).set 260 (.bool d) = ckc bk at_ V q mvv d := ckc_set hV 2 (.bool d)
theorem ckc_setV {bk at_ q : Nat} {V V' : List Int} {mvv : Value} {done : Bool} (hV : V.length = 256) (hV' : V'.length = 256) : splice (ckc bk at_ V q mvv done) 2 (iv V') = ckc bk at_ V' q mvv done := by
  unfold ckc splice
  rw [iv_len, hV']
  show [Value.pointer (some ⟨bk, 0, none⟩), Value.int .i64 (at_ : Nat)] ++ iv V' ++ (iv V ++ [.map (some q), mvv, .bool done]).drop 256 = _
  rw [List.drop_append, List.drop_eq_nil_of_le (by rw [iv_len]; omega), iv_len, hV]
  simp
/-- A clerk in memory. -/
structure ClerkAt (M : AM) (ck q : Nat) (mvv : Value) (bk : Nat) (K : Ck) : Prop where
  cells : M[ck]? = some (some { cells := ckc bk K.at_ K.V q mvv K.done })
  lV : K.V.length = 256
  lb : bk < M.length
  map : ∃ E, M[q]? = some (some (mapB E)) ∧ ∀ x, x ∈ E.map Prod.fst ↔ x ∈ K.seen
  row : Row M 0 4 mvv (tcs K.mv) K.mv.length
theorem ClerkAt.lt {M : AM} {ck q bk : Nat} {mvv : Value} {K : Ck} (h : ClerkAt M ck q mvv bk K) : ck < M.length := (List.getElem?_eq_some_iff.1 h.cells).1
theorem ClerkAt.ltq {M : AM} {ck q bk : Nat} {mvv : Value} {K : Ck} (h : ClerkAt M ck q mvv bk K) : q < M.length := by
  obtain ⟨E, h1, _⟩ := h.map
  exact (List.getElem?_eq_some_iff.1 h1).1
theorem ClerkAt.ne {M : AM} {ck q bk : Nat} {mvv : Value} {K : Ck} (h : ClerkAt M ck q mvv bk K) : ck ≠ q := by
  rintro rfl
  obtain ⟨E, h1, _⟩ := h.map
  rw [h.cells] at h1
  simp [mapB, ckc] at h1
theorem ClerkAt.apart {M : AM} {ck q bk : Nat} {mvv : Value} {K : Ck} (h : ClerkAt M ck q mvv bk K) : NotOf mvv ck ∧ NotOf mvv q := by
  constructor
  · intro n c e
    rcases h.row with ⟨e', _⟩ | ⟨a, kd, sz, _, e', h3, h4, _⟩
    · rw [e'] at e; cases e
    · rw [e'] at e
      simp only [Value.slice.injEq, Option.some.injEq, Addr.mk.injEq] at e
      obtain ⟨⟨rfl, _⟩, _⟩ := e
      rw [h.cells] at h3
      simp only [Option.some.injEq, Blk.mk.injEq] at h3
      have h5 := h3.1
      cases hm : K.mv with
      | nil => rw [hm] at h5; simp [ckc, tcs] at h5
      | cons x l => rw [hm] at h5; simp [ckc, tcs, Tr.c] at h5
  · intro n c e
    obtain ⟨E, h1, _⟩ := h.map
    rcases h.row with ⟨e', _⟩ | ⟨a, kd, sz, _, e', h3, h4, h5⟩
    · rw [e'] at e; cases e
    · rw [e'] at e
      simp only [Value.slice.injEq, Option.some.injEq, Addr.mk.injEq] at e
      obtain ⟨⟨rfl, _⟩, _⟩ := e
      rw [h1] at h3
      simp only [Option.some.injEq, mapB, Blk.mk.injEq] at h3
      obtain ⟨_, h6, _⟩ := h3
      rcases h5 with e | ⟨e, _⟩ <;> (rw [e] at h6; cases h6)
theorem ClerkAt.msub {M M' : AM} {ck q bk : Nat} {mvv : Value} {K : Ck} (h : ClerkAt M ck q mvv bk K) (hs : MSub M M') : ClerkAt M' ck q mvv bk K := by
  obtain ⟨h1, h2, h3, ⟨E, h4, h5⟩, h6⟩ := h
  exact ⟨hs.get _ _ rfl h1, h2, by have := hs.len; omega, ⟨E, hs.get _ _ rfl h4, h5⟩, h6.msub hs⟩
theorem ClerkAt.old {M : AM} {ck q bk : Nat} {mvv : Value} {K : Ck} (h : ClerkAt M ck q mvv bk K) (T : AM) : ClerkAt (M ++ T) ck q mvv bk K := h.msub (Sub.app M T).m
/-- Which blocks a clerk may turn. -/
def ckD (ck q : Nat) (mvv : Value) : Nat → Prop := fun j => j = ck ∨ j = q ∨ ¬ NotOf mvv j
theorem ClerkAt.in_ {S : Nat → Prop} {M : AM} {ck q bk : Nat} {mvv : Value} {K : Ck} (h : ClerkAt (vw S M) ck q mvv bk K) : ∀ i, ckD ck q mvv i → S i := fun i hi => by
  rcases hi with rfl | rfl | hi
  · exact (vw_some.1 h.cells).1
  · obtain ⟨E, h1, _⟩ := h.map
    exact (vw_some.1 h1).1
  · obtain ⟨b, hb⟩ := h.row.at_ hi
    exact (vw_some.1 hb).1
/-- busy's answer. -/
def busyF (K : Ck) : Int := if K.done then 9 else 0
theorem un57 : Try.prog.underlying 57 = some (.pointer 138) := by kernel_rfl
set_option maxRecDepth 100000 in
theorem busy_ok {m : AM} {ck bk : Nat} {dn : Bool} (h0 : Rd m ck 0 (.pointer (some ⟨bk, 0, none⟩))) (hd : Rd m ck 260 (.bool dn)) : ACall Try.prog 91 #[.pointer (some ⟨ck, 0, none⟩)] m (Ret (.int .i64 (if dn then 9 else 0)) m) := by
  have hr := fun T => h0.old T
  have hr2 := fun T => hd.old T
  refine ACall.start Try.func91 rfl rfl ?_
  cases dn with
  | true =>
    (repeat (first | (with_reducible refine AWo.cons ?_) | ((with_reducible refine Step.id ?_); first | ((with_reducible apply Step.gdT); exact rfl; exact rfl; (focus (rfl))) | ((with_reducible apply Step.move); exact rfl; exact rfl) | ((with_reducible apply Step.assign); exact rfl; exact rfl) | ((with_reducible apply Step.load); exact rfl; (focus (decide +kernel)); exact rfl; (focus (first | exact hr _ | exact hr2 _))) | ((with_reducible apply Step.field0); exact rfl; (focus (decide +kernel)); exact rfl) | ((with_reducible apply Step.field (k := 260)); exact rfl; (focus (decide +kernel)); exact rfl) | ((with_reducible apply Step.ptrNot); exact rfl; exact rfl; exact un49; exact rfl) | ((with_reducible apply Step.ptrNot); exact rfl; exact rfl; exact un57; exact rfl) | ((with_reducible apply Step.nilp); exact rfl; exact rfl) | ((with_reducible apply Step.pickF); exact rfl; exact rfl; exact rfl; exact rfl; (focus (rfl)))) | (with_reducible refine AWo.nil ?_) | ((with_reducible apply AW.seq)) | ((with_reducible apply Then.n)) | ((with_reducible apply AW.regL)) | ((with_reducible apply AW.block)) | ((with_reducible apply AW.condT); exact rfl; (focus (rfl))) | ((with_reducible apply AW.condF); exact rfl; (focus (rfl)))))
    (refine AW.retD (l := [(2, _)]) (by repeat (first | exact trivial | (refine And.intro ⟨rfl, by (exact .int _ _)⟩ ?_))) ?_; (repeat (first | refine Then.r ?_ | refine InBlk.r ?_)))
    exact ⟨_, rfl, rfl, rfl⟩
  | false =>
    (repeat (first | (with_reducible refine AWo.cons ?_) | ((with_reducible refine Step.id ?_); first | ((with_reducible apply Step.gdT); exact rfl; exact rfl; (focus (rfl))) | ((with_reducible apply Step.move); exact rfl; exact rfl) | ((with_reducible apply Step.assign); exact rfl; exact rfl) | ((with_reducible apply Step.load); exact rfl; (focus (decide +kernel)); exact rfl; (focus (first | exact hr _ | exact hr2 _))) | ((with_reducible apply Step.field0); exact rfl; (focus (decide +kernel)); exact rfl) | ((with_reducible apply Step.field (k := 260)); exact rfl; (focus (decide +kernel)); exact rfl) | ((with_reducible apply Step.ptrNot); exact rfl; exact rfl; exact un49; exact rfl) | ((with_reducible apply Step.ptrNot); exact rfl; exact rfl; exact un57; exact rfl) | ((with_reducible apply Step.nilp); exact rfl; exact rfl) | ((with_reducible apply Step.pickF); exact rfl; exact rfl; exact rfl; exact rfl; (focus (rfl)))) | (with_reducible refine AWo.nil ?_) | ((with_reducible apply AW.seq)) | ((with_reducible apply Then.n)) | ((with_reducible apply AW.regL)) | ((with_reducible apply AW.block)) | ((with_reducible apply InBlk.n)) | ((with_reducible apply AW.skip)) | ((with_reducible apply AW.condF); exact rfl; (focus (rfl)))))
    (refine AW.retD (l := [(2, _)]) (by repeat (first | exact trivial | (refine And.intro ⟨rfl, by (exact .int _ _)⟩ ?_))) ?_; (repeat (first | refine Then.r ?_ | refine InBlk.r ?_)))
    exact ⟨_, rfl, rfl, rfl⟩
end Go.Proofs.Ytabdnepfcohncaa.Abs
namespace Go.Proofs.Ytabdnepfcohncaa.Abs
set_option linter.unusedSimpArgs false
set_option linter.unusedVariables false
open Go.RowKit
open Go.Proofs.Ytabdnepfcohncaa.Sim
open Go.Proofs
theorem ze155 : zeroB Try.prog 155 = some #[.int .i64 0, .int .i64 0] := by kernel_rfl
/-- A clerk's Held: the count, the error, the clerk behind it. -/
def chF (K : Ck) (p i : Int) : Int × Int × Ck := if K.done = true then (0, 9, K) else if inB p i = true then (K.V.getD (p.toNat * 16 + i.toNat) 0, 0, { K with seen := (p, i) :: K.seen }) else (0, 2, K)
set_option maxHeartbeats 4000000 in
set_option maxRecDepth 100000 in
theorem CHeld_ok {m : AM} {ck q bk : Nat} {mvv : Value} {K : Ck} (p i : Int) (h : ClerkAt m ck q mvv bk K) : ACall Try.prog 31 #[.pointer (some ⟨ck, 0, none⟩), .int .i64 p, .int .i64 i] m (fun r M => r = .tuple #[.int .i64 (chF K p i).1, .int .i64 (chF K p i).2.1] ∧ ClerkAt M ck q mvv bk (chF K p i).2.2 ∧ Keep (· = q) m M) := by
  have hbusy := fun T => busy_ok (m := m ++ T) (dn := K.done) (Rd.old T ⟨_, h.cells, ckc_0⟩) (Rd.old T ⟨_, h.cells, ckc_d h.lV⟩)
  have hth := fun T b e => there_ok (m := m ++ T) p i (b := b) e
  have hcl := h.lt
  have hne := h.ne
  obtain ⟨E, hE, hEs⟩ := h.map
  have hql := h.ltq
  unfold chF
  cases hd : K.done with
  | true =>
    rw [hd] at hbusy
    simp only [if_true] at hbusy ⊢
    refine ACall.start Try.func31 rfl rfl ?_
    (repeat (first | (with_reducible refine AWo.cons ?_) | ((with_reducible refine Step.id ?_); first | ((with_reducible apply Step.move); exact rfl; exact rfl) | ((with_reducible apply Step.assign); exact rfl; exact rfl) | ((with_reducible apply Step.neq); exact rfl; exact rfl; exact rfl) | ((with_reducible apply Step.callR fit); exact rfl; exact Try.func91; exact rfl; exact rfl; exact (hbusy _))) | (with_reducible refine AWo.nil ?_) | ((with_reducible apply AW.seq)) | ((with_reducible apply Then.n)) | ((with_reducible apply AW.regL)) | ((with_reducible apply AW.condT); exact rfl; (focus (rfl)))))
    (refine AW.ret ?_; (repeat (first | refine Then.r ?_ | refine InBlk.r ?_)))
    exact ⟨_, rfl, rfl, h.old _, Keep.app _ _ _⟩
  | false =>
    rw [hd] at hbusy
    simp only [Bool.false_eq_true, if_false] at hbusy ⊢
    refine ACall.start Try.func31 rfl rfl ?_
    cases hin : inB p i with
    | false =>
      have hth := fun T => hth T _ hin
      simp only [Bool.false_eq_true, if_false]
      (repeat (first | (with_reducible refine AWo.cons ?_) | ((with_reducible refine Step.id ?_); first | ((with_reducible apply Step.move); exact rfl; exact rfl) | ((with_reducible apply Step.assign); exact rfl; exact rfl) | ((with_reducible apply Step.loadL (n := 2)); exact rfl; (focus (decide +kernel)); (focus (decide +kernel)); exact rfl; (focus (exact RdL.new rfl rfl)); exact rfl; exact rfl) | ((with_reducible apply Step.neq); exact rfl; exact rfl; exact rfl) | ((with_reducible apply Step.not); exact rfl; exact rfl) | ((with_reducible apply Step.callR fit); exact rfl; exact Try.func91; exact rfl; exact rfl; exact (hbusy _)) | ((with_reducible apply Step.callR fit); exact rfl; exact Try.func92; exact rfl; exact rfl; exact (hth _)) | ((with_reducible apply Step.alloc 0); exact rfl; exact ze155; exact rfl; (focus (first | (simp only [List.nil_append, List.cons_append, List.set_cons_zero, List.set_cons_succ, iv_set, bv_set, iv_rep, bv_rep]; done) | (simp only [List.nil_append, List.cons_append, List.set_cons_zero, List.set_cons_succ, iv_set, bv_set, iv_rep, bv_rep]; rfl) | rfl))) | ((with_reducible apply Step.storeA (k := 0) (n := 2)); exact rfl; exact rfl; exact rfl; exact rfl; (focus (decide +kernel)); exact rfl; (focus (kernel_rfl)); exact rfl; (focus (first | (simp only [List.nil_append, List.cons_append, List.set_cons_zero, List.set_cons_succ, iv_set, bv_set, iv_rep, bv_rep]; done) | (simp only [List.nil_append, List.cons_append, List.set_cons_zero, List.set_cons_succ, iv_set, bv_set, iv_rep, bv_rep]; rfl) | rfl))) | ((with_reducible apply Step.build); exact rfl; exact bl155; exact rfl)) | (with_reducible refine AWo.nil ?_) | ((with_reducible apply AW.seq)) | ((with_reducible apply Then.n)) | ((with_reducible apply AW.regL)) | ((with_reducible apply AW.skip)) | ((with_reducible apply AW.condT); exact rfl; (focus (rfl))) | ((with_reducible apply AW.condF); exact rfl; (focus (rfl)))))
      (refine AW.ret ?_; (repeat (first | refine Then.r ?_ | refine InBlk.r ?_)))
      exact ⟨_, rfl, rfl, h.old _, Keep.app _ _ _⟩
    | true =>
      have hth := fun T => hth T _ hin
      simp only [inB, decide_eq_true_eq] at hin
      obtain ⟨x1, x2, x3, x4⟩ := hin
      obtain ⟨p, rfl⟩ := Int.eq_ofNat_of_zero_le x1
      obtain ⟨i, rfl⟩ := Int.eq_ofNat_of_zero_le x3
      have hrq := fun T => Rd.old T (show Rd m ck 258 (.map (some q)) from ⟨_, h.cells, ckc_q h.lV⟩)
      have hlV := h.lV
      have hrv : ∀ (T : AM) (b : Option Blk), Rd ((m ++ T).set q b) ck (0 + 2 + p * 16 + i) (.int .i64 (K.V.getD (p * 16 + i) 0)) := fun T b => by rw [show 0 + 2 + p * 16 + i = 2 + (p * 16 + i) by omega]; exact ⟨_, by rw [List.getElem?_set_ne (Ne.symm hne), List.getElem?_append_left hcl]; exact h.cells, ckc_V (V := K.V) (k := p * 16 + i) (by omega)⟩
      simp only [if_true, Int.toNat_natCast]
      (repeat (first | (with_reducible refine AWo.cons ?_) | ((with_reducible refine Step.id ?_); first | ((with_reducible apply Step.move); exact rfl; exact rfl) | ((with_reducible apply Step.assign); exact rfl; exact rfl) | ((with_reducible apply Step.load); exact rfl; (focus (decide +kernel)); exact rfl; (focus (first | exact hrq _ | exact hrv _ _))) | ((with_reducible apply Step.loadL (n := 2)); exact rfl; (focus (decide +kernel)); (focus (decide +kernel)); exact rfl; (focus (exact RdL.new rfl rfl)); exact rfl; exact rfl) | ((with_reducible apply Step.field (k := 2)); exact rfl; (focus (decide +kernel)); exact rfl) | ((with_reducible apply Step.field (k := 258)); exact rfl; (focus (decide +kernel)); exact rfl) | ((with_reducible apply Step.ixA (s := 16) (n := 16)); exact rfl; exact rfl; exact ar130; exact rfl; (focus (omega))) | ((with_reducible apply Step.ixC (n := 16)); exact rfl; exact rfl; exact ar128; exact rfl; (focus (omega))) | ((with_reducible apply Step.neq); exact rfl; exact rfl; exact rfl) | ((with_reducible apply Step.not); exact rfl; exact rfl) | ((with_reducible apply Step.nilp); exact rfl; exact rfl) | ((with_reducible apply Step.callR fit); exact rfl; exact Try.func91; exact rfl; exact rfl; exact (hbusy _)) | ((with_reducible apply Step.callR fit); exact rfl; exact Try.func92; exact rfl; exact rfl; exact (hth _)) | ((with_reducible apply Step.mapSetP); exact rfl; exact rfl; exact rfl; (focus (repeat (first | assumption | exact get_old _ (by assumption) | apply set_hit)))) | ((with_reducible apply Step.alloc 0); exact rfl; exact ze155; exact rfl; (focus (first | (simp only [List.nil_append, List.cons_append, List.set_cons_zero, List.set_cons_succ, iv_set, bv_set, iv_rep, bv_rep]; done) | (simp only [List.nil_append, List.cons_append, List.set_cons_zero, List.set_cons_succ, iv_set, bv_set, iv_rep, bv_rep]; rfl) | rfl))) | ((with_reducible apply Step.storeA (k := 0) (n := 2)); exact rfl; exact rfl; exact rfl; exact rfl; (focus (decide +kernel)); exact rfl; (focus (kernel_rfl)); exact rfl; (focus (first | (simp only [List.nil_append, List.cons_append, List.set_cons_zero, List.set_cons_succ, iv_set, bv_set, iv_rep, bv_rep]; done) | (simp only [List.nil_append, List.cons_append, List.set_cons_zero, List.set_cons_succ, iv_set, bv_set, iv_rep, bv_rep]; rfl) | rfl))) | ((with_reducible apply Step.build); exact rfl; exact bl155; exact rfl)) | (with_reducible refine AWo.nil ?_) | ((with_reducible apply AW.seq)) | ((with_reducible apply Then.n)) | ((with_reducible apply AW.regL)) | ((with_reducible apply AW.drawL fit); (focus (decide +kernel))) | ((with_reducible apply AW.skip)) | ((with_reducible apply AW.condF); exact rfl; (focus (rfl)))))

      (refine AW.ret ?_; (repeat (first | refine Then.r ?_ | refine InBlk.r ?_)))
      have hk : Keep (· = q) m (List.set (m ++ [some { cells := (Value.agg #[.int .i64 (p : Nat), .int .i64 (i : Nat)]).cells.toList }]) q (some (mapB (setE E (((p : Nat) : Int), ((i : Nat) : Int)) true)))) := ⟨by rw [List.length_set, List.length_append]; omega, fun j hj hd => by rw [List.getElem?_set_ne (Ne.symm hd), List.getElem?_append_left hj]⟩
      refine ⟨_, rfl, rfl, ⟨?_, hlV, by have := h.lb; have := hk.len; omega, ⟨_, set_hit (get_old _ hE), fun x => ?_⟩, ?_⟩, hk⟩
      · rw [hk.get ck hcl hne, h.cells, hd]
      · rw [setE_fst, hEs, List.mem_cons, or_comm]
      · exact h.row.keep fun j hj hn => hk.get j hj fun e => hn (e ▸ h.apart.2)
set_option maxHeartbeats 4000000 in
set_option maxRecDepth 100000 in
theorem CDrop_ok {m : AM} {ck q bk : Nat} {mvv : Value} {K : Ck} (h : ClerkAt m ck q mvv bk K) : ACall Try.prog 69 #[.pointer (some ⟨ck, 0, none⟩)] m (fun r M => r = .int .i64 (busyF K) ∧ ClerkAt M ck q mvv bk { K with done := true } ∧ Keep (· = ck) m M) := by
  have hbusy := fun T => busy_ok (m := m ++ T) (dn := K.done) (Rd.old T ⟨_, h.cells, ckc_0⟩) (Rd.old T ⟨_, h.cells, ckc_d h.lV⟩)
  have hcl := h.lt
  have hne := h.ne
  have hlV := h.lV
  have hlen := ckc_len (bk := bk) (at_ := K.at_) (q := q) (mvv := mvv) (done := K.done) hlV
  have hcells := h.cells
  unfold busyF
  cases hd : K.done with
  | true =>
    rw [hd] at hbusy
    refine ACall.start Try.func69 rfl rfl ?_
    (repeat (first | (with_reducible refine AWo.cons ?_) | ((with_reducible refine Step.id ?_); first | ((with_reducible apply Step.move); exact rfl; exact rfl) | ((with_reducible apply Step.assign); exact rfl; exact rfl) | ((with_reducible apply Step.neq); exact rfl; exact rfl; exact rfl) | ((with_reducible apply Step.callR fit); exact rfl; exact Try.func91; exact rfl; exact rfl; exact (hbusy _))) | (with_reducible refine AWo.nil ?_) | ((with_reducible apply AW.seq)) | ((with_reducible apply Then.n)) | ((with_reducible apply AW.regL)) | ((with_reducible apply AW.condT); exact rfl; (focus (rfl)))))
    (refine AW.ret ?_; (repeat (first | refine Then.r ?_ | refine InBlk.r ?_)))
    refine ⟨_, rfl, rfl, ?_, Keep.app _ _ _⟩
    have e : ({ K with done := true } : Ck) = K := by rw [← hd]
    rw [e]
    exact h.old _
  | false =>
    rw [hd] at hbusy hlen hcells
    refine ACall.start Try.func69 rfl rfl ?_
    (repeat (first | (with_reducible refine AWo.cons ?_) | ((with_reducible refine Step.id ?_); first | ((with_reducible apply Step.move); exact rfl; exact rfl) | ((with_reducible apply Step.assign); exact rfl; exact rfl) | ((with_reducible apply Step.field (k := 260)); exact rfl; (focus (decide +kernel)); exact rfl) | ((with_reducible apply Step.neq); exact rfl; exact rfl; exact rfl) | ((with_reducible apply Step.nilp); exact rfl; exact rfl) | ((with_reducible apply Step.callR fit); exact rfl; exact Try.func91; exact rfl; exact rfl; exact (hbusy _))) | (with_reducible refine AWo.nil ?_) | ((with_reducible apply AW.seq)) | ((with_reducible apply Then.n)) | ((with_reducible apply AW.regL)) | ((with_reducible apply AW.skip)) | ((with_reducible apply AW.condF); exact rfl; (focus (rfl)))))
    ((with_reducible apply Step.storeAt); exact rfl; exact rfl; exact (get_old _ hcells); (focus (kernel_rfl)); exact rfl; (focus (rw [hlen]; omega)); exact rfl; exact rfl)
    (repeat (first | (with_reducible refine AWo.cons ?_) | ((with_reducible refine Step.id ?_); ((with_reducible apply Step.assign); exact rfl; exact rfl)) | (with_reducible refine AWo.nil ?_) | ((with_reducible apply AW.seq)) | ((with_reducible apply Then.n)) | ((with_reducible apply AW.regL))))
    (refine AW.ret ?_; (repeat (first | refine Then.r ?_ | refine InBlk.r ?_)))
    have hk : Keep (· = ck) m (List.set (m ++ []) ck (some { cells := (ckc bk K.at_ K.V q mvv false).set (0 + 260) (.bool true) })) := ⟨by rw [List.length_set, List.length_append]; omega, fun j hj hd => by rw [List.getElem?_set_ne (Ne.symm hd), List.getElem?_append_left hj]⟩
    obtain ⟨E, hE, hEs⟩ := h.map
    refine ⟨_, rfl, rfl, ⟨?_, hlV, by have := h.lb; have := hk.len; omega, ⟨E, by rw [hk.get q h.ltq (Ne.symm hne)]; exact hE, hEs⟩, ?_⟩, hk⟩
    · rw [set_hit (get_old _ hcells), Nat.zero_add, ckc_setD hlV]
    · exact h.row.keep fun j hj hn => hk.get j hj fun e => hn (e ▸ h.apart.1)
end Go.Proofs.Ytabdnepfcohncaa.Abs
namespace Go.Proofs.Ytabdnepfcohncaa.Abs
set_option linter.unusedSimpArgs false
set_option linter.unusedVariables false
open Go.RowKit
open Go.Proofs.Ytabdnepfcohncaa.Sim
open Go.Proofs
/-- A clerk's Move: the error, the clerk behind it. -/
def moF (K : Ck) (x : Tr) : Int × Ck := if K.done = true then (9, K) else if okT x = true then if 16 ≤ K.mv.length then (3, K) else (0, { K with mv := K.mv ++ [x], V := wth1 K.V x }) else (2, K)
theorem sz55 : szB Try.prog 55 = some 1 := by kernel_rfl
theorem bs55v {m : AM} {k : Nat} {a b c d : Int} : abuildSlice Try.prog m k 55 1 [(0, .agg #[.int .i64 a, .int .i64 b, .int .i64 c, .int .i64 d])] = some (.slice (some ⟨k, 0, none⟩) 1 1, m.set k (some { cells := [.int .i64 a, .int .i64 b, .int .i64 c, .int .i64 d] })) := by kernel_rfl
theorem ClerkAt.rd {M : AM} {ck q bk : Nat} {mvv : Value} {K : Ck} (h : ClerkAt M ck q mvv bk K) (T : AM) : Rd (M ++ T) ck 0 (.pointer (some ⟨bk, 0, none⟩)) ∧ Rd (M ++ T) ck 1 (.int .i64 (K.at_ : Nat)) ∧ Rd (M ++ T) ck 258 (.map (some q)) ∧ Rd (M ++ T) ck 259 mvv ∧ Rd (M ++ T) ck 260 (.bool K.done) :=
  ⟨Rd.old T ⟨_, h.cells, ckc_0⟩, Rd.old T ⟨_, h.cells, ckc_1⟩, Rd.old T ⟨_, h.cells, ckc_q h.lV⟩, Rd.old T ⟨_, h.cells, ckc_m h.lV⟩, Rd.old T ⟨_, h.cells, ckc_d h.lV⟩⟩
theorem get_two {m : AM} {a b c : Option Blk} {j : Nat} (h : j ≤ m.length) (e : a = c) : (m ++ [a, b])[j]? = (m ++ [c])[j]? := by
  subst e
  rcases Nat.lt_or_ge j m.length with hl | hl
  · rw [List.getElem?_append_left hl, List.getElem?_append_left hl]
  · have e : j = m.length + 0 := by omega
    rw [e, get_app, get_app]; rfl
theorem with1_ok {M : AM} {x : Tr} {H : List Int} {b : Int} (hok : okT x = true) (hH : H.length = 256) (hb : Bd H b) (hb1 : b ≤ 1000000000000) :
    ACall Try.prog 87 #[.agg (iv H).toArray, .slice (some ⟨M.length + 0, 0, none⟩) 1 1] (M ++ [some { cells := x.c }]) (Ret (.agg (iv (wth1 H x)).toArray) (M ++ [some { cells := x.c }])) :=
  with_ok (l := [x]) ⟨M.length + 0, 0, Sl.mk (Nat.le_refl _), by simp, fun k hk => by
    obtain rfl : k = 0 := by simpa using hk
    exact RdL.new rfl rfl⟩ (by simp) (by simp [hok]) hH hb hb1
set_option maxHeartbeats 8000000 in
set_option maxRecDepth 100000 in
theorem Move_ok {m : AM} {ck q bk : Nat} {mvv : Value} {K : Ck} {x : Tr} {b : Int} (h : ClerkAt m ck q mvv bk K) (hb : Bd K.V b) (hb1 : b ≤ 1000000000000) : ACall Try.prog 33 #[.pointer (some ⟨ck, 0, none⟩), x.v] m
    (fun r M => ∃ mvv', r = .int .i64 (moF K x).1 ∧ ClerkAt M ck q mvv' bk (moF K x).2 ∧ Keep (ckD ck q mvv) m M ∧ ∀ j, j < m.length → NotOf mvv j → NotOf mvv' j) := by
  have hbusy := fun T => busy_ok (m := m ++ T) (dn := K.done) (h.rd T).1 (h.rd T).2.2.2.2
  have hri := fun T b e => right_ok (m := m ++ T) x (b := b) e
  have hcl := h.lt
  have hne := h.ne
  have hlV := h.lV
  have hap := h.apart
  have hrm := fun T => (h.rd T).2.2.2.1
  obtain ⟨am, q1, q2, q3⟩ := h.row.sl (by omega)
  obtain ⟨i, f, t, n⟩ := x
  unfold moF
  cases hd : K.done with
  | true =>
    rw [hd] at hbusy
    simp only [if_true] at hbusy ⊢
    refine ACall.start Try.func33 rfl rfl ?_
    (repeat (first | (with_reducible refine AWo.cons ?_) | ((with_reducible refine Step.id ?_); first | ((with_reducible apply Step.move); exact rfl; exact rfl) | ((with_reducible apply Step.assign); exact rfl; exact rfl) | ((with_reducible apply Step.neq); exact rfl; exact rfl; exact rfl) | ((with_reducible apply Step.callR fit); exact rfl; exact Try.func91; exact rfl; exact rfl; exact (hbusy _)) | ((with_reducible apply Step.box 0); exact rfl; exact rfl; (focus (kernel_rfl)); exact rfl; (focus (first | (simp only [List.nil_append, List.cons_append, List.set_cons_zero, List.set_cons_succ, iv_set, bv_set, iv_rep, bv_rep]; done) | (simp only [List.nil_append, List.cons_append, List.set_cons_zero, List.set_cons_succ, iv_set, bv_set, iv_rep, bv_rep]; rfl) | rfl)))) | (with_reducible refine AWo.nil ?_) | ((with_reducible apply AW.seq)) | ((with_reducible apply Then.n)) | ((with_reducible apply AW.regL)) | ((with_reducible apply AW.block)) | ((with_reducible apply AW.condT); exact rfl; (focus (rfl)))))
    (refine AW.ret ?_; (repeat (first | refine Then.r ?_ | refine InBlk.r ?_)))
    exact ⟨_, rfl, mvv, rfl, h.old _, Keep.app _ _ _, fun _ _ h => h⟩
  | false =>
    rw [hd] at hbusy
    simp only [Bool.false_eq_true, if_false] at hbusy ⊢
    cases hok : okT ⟨i, f, t, n⟩ with
    | false =>
      have hri := fun T => hri T _ hok
      simp only [Bool.false_eq_true, if_false]
      refine ACall.start Try.func33 rfl rfl ?_
      (repeat (first | (with_reducible refine AWo.cons ?_) | ((with_reducible refine Step.id ?_); first | ((with_reducible apply Step.move); exact rfl; exact rfl) | ((with_reducible apply Step.assign); exact rfl; exact rfl) | ((with_reducible apply Step.loadL (n := 4)); exact rfl; (focus (decide +kernel)); (focus (decide +kernel)); exact rfl; (focus (exact RdL.new rfl rfl)); exact rfl; exact rfl) | ((with_reducible apply Step.neq); exact rfl; exact rfl; exact rfl) | ((with_reducible apply Step.not); exact rfl; exact rfl) | ((with_reducible apply Step.callR fit); exact rfl; exact Try.func91; exact rfl; exact rfl; exact (hbusy _)) | ((with_reducible apply Step.callR fit); exact rfl; exact Try.func86; exact rfl; exact rfl; exact (hri _)) | ((with_reducible apply Step.box 0); exact rfl; exact rfl; (focus (kernel_rfl)); exact rfl; (focus (first | (simp only [List.nil_append, List.cons_append, List.set_cons_zero, List.set_cons_succ, iv_set, bv_set, iv_rep, bv_rep]; done) | (simp only [List.nil_append, List.cons_append, List.set_cons_zero, List.set_cons_succ, iv_set, bv_set, iv_rep, bv_rep]; rfl) | rfl)))) | (with_reducible refine AWo.nil ?_) | ((with_reducible apply AW.seq)) | ((with_reducible apply Then.n)) | ((with_reducible apply AW.regL)) | ((with_reducible apply AW.block)) | ((with_reducible apply AW.condT); exact rfl; (focus (rfl))) | ((with_reducible apply AW.condF); exact rfl; (focus (rfl)))))
      (refine AW.ret ?_; (repeat (first | refine Then.r ?_ | refine InBlk.r ?_)))
      exact ⟨_, rfl, mvv, rfl, h.old _, Keep.app _ _ _, fun _ _ h => h⟩
    | true =>
      have hri := fun T => hri T _ hok
      simp only [if_true]
      by_cases h16 : 16 ≤ K.mv.length
      · simp only [h16, if_true]
        refine ACall.start Try.func33 rfl rfl ?_
        (repeat (first | (with_reducible refine AWo.cons ?_) | ((with_reducible refine Step.id ?_); first | ((with_reducible apply Step.move); exact rfl; exact rfl) | ((with_reducible apply Step.assign); exact rfl; exact rfl) | ((with_reducible apply Step.load); exact rfl; (focus (decide +kernel)); exact rfl; (focus (exact hrm _))) | ((with_reducible apply Step.loadL (n := 4)); exact rfl; (focus (decide +kernel)); (focus (decide +kernel)); exact rfl; (focus (exact RdL.new rfl rfl)); exact rfl; exact rfl) | ((with_reducible apply Step.field (k := 259)); exact rfl; (focus (decide +kernel)); exact rfl) | ((with_reducible apply Step.geq); exact rfl; exact rfl; exact rfl) | ((with_reducible apply Step.neq); exact rfl; exact rfl; exact rfl) | ((with_reducible apply Step.len); exact rfl; (focus (assumption)); (focus (decide +kernel)); exact rfl) | ((with_reducible apply Step.not); exact rfl; exact rfl) | ((with_reducible apply Step.nilp); exact rfl; exact rfl) | ((with_reducible apply Step.callR fit); exact rfl; exact Try.func91; exact rfl; exact rfl; exact (hbusy _)) | ((with_reducible apply Step.callR fit); exact rfl; exact Try.func86; exact rfl; exact rfl; exact (hri _)) | ((with_reducible apply Step.box 0); exact rfl; exact rfl; (focus (kernel_rfl)); exact rfl; (focus (first | (simp only [List.nil_append, List.cons_append, List.set_cons_zero, List.set_cons_succ, iv_set, bv_set, iv_rep, bv_rep]; done) | (simp only [List.nil_append, List.cons_append, List.set_cons_zero, List.set_cons_succ, iv_set, bv_set, iv_rep, bv_rep]; rfl) | rfl)))) | (with_reducible refine AWo.nil ?_) | ((with_reducible apply AW.seq)) | ((with_reducible apply Then.n)) | ((with_reducible apply AW.regL)) | ((with_reducible apply AW.block)) | ((with_reducible apply AW.condT); exact rfl; (focus ((simp only [decide_eq_true_eq, decide_eq_false_iff_not, Bool.not_eq_true', Bool.not_eq_false', Bool.not_true, Bool.not_false]; first | assumption | omega)))) | ((with_reducible apply AW.condF); exact rfl; (focus (rfl)))))
        (refine AW.ret ?_; (repeat (first | refine Then.r ?_ | refine InBlk.r ?_)))
        exact ⟨_, rfl, mvv, rfl, h.old _, Keep.app _ _ _, fun _ _ h => h⟩
      · simp only [h16, if_false]
        refine ACall.start Try.func33 rfl rfl ?_
        (repeat (first | (with_reducible refine AWo.cons ?_) | ((with_reducible refine Step.id ?_); first | ((with_reducible apply Step.move); exact rfl; exact rfl) | ((with_reducible apply Step.assign); exact rfl; exact rfl) | ((with_reducible apply Step.load); exact rfl; (focus (decide +kernel)); exact rfl; (focus (exact hrm _))) | ((with_reducible apply Step.loadL (n := 4)); exact rfl; (focus (decide +kernel)); (focus (decide +kernel)); exact rfl; (focus (exact RdL.new rfl rfl)); exact rfl; exact rfl) | ((with_reducible apply Step.field (k := 259)); exact rfl; (focus (decide +kernel)); exact rfl) | ((with_reducible apply Step.geq); exact rfl; exact rfl; exact rfl) | ((with_reducible apply Step.neq); exact rfl; exact rfl; exact rfl) | ((with_reducible apply Step.len); exact rfl; (focus (assumption)); (focus (decide +kernel)); exact rfl) | ((with_reducible apply Step.not); exact rfl; exact rfl) | ((with_reducible apply Step.nilp); exact rfl; exact rfl) | ((with_reducible apply Step.callR fit); exact rfl; exact Try.func91; exact rfl; exact rfl; exact (hbusy _)) | ((with_reducible apply Step.callR fit); exact rfl; exact Try.func86; exact rfl; exact rfl; exact (hri _)) | ((with_reducible apply Step.box 0); exact rfl; exact rfl; (focus (kernel_rfl)); exact rfl; (focus (first | (simp only [List.nil_append, List.cons_append, List.set_cons_zero, List.set_cons_succ, iv_set, bv_set, iv_rep, bv_rep]; done) | (simp only [List.nil_append, List.cons_append, List.set_cons_zero, List.set_cons_succ, iv_set, bv_set, iv_rep, bv_rep]; rfl) | rfl)))) | (with_reducible refine AWo.nil ?_) | ((fail_if_success (with_reducible refine AW.atR (id := 8) ?_)); ((with_reducible apply AW.seq))) | ((with_reducible apply Then.n)) | ((with_reducible apply AW.regL)) | ((with_reducible apply AW.block)) | ((with_reducible apply InBlk.n)) | ((with_reducible apply AW.skip)) | ((with_reducible apply AW.condF); exact rfl; (focus (first | rfl | (simp only [decide_eq_true_eq, decide_eq_false_iff_not, Bool.not_eq_true', Bool.not_eq_false', Bool.not_true, Bool.not_false]; first | assumption | omega))))))
        refine AW.seq ?_
        refine AW.joinQ (fun t' M' => ∃ u, (∃ X, M' = X.set ck (some { cells := ckc bk K.at_ K.V q u false }) ∧ X[ck]? = some (some { cells := ckc bk K.at_ K.V q mvv false }) ∧ Row X 0 4 u (tcs K.mv ++ [.int .i64 i, .int .i64 f, .int .i64 t, .int .i64 n]) (K.mv.length + 1) ∧ m.length < X.length ∧ (∀ j, j ≤ m.length → NotOf mvv j → X[j]? = (m ++ [some { cells := [.int .i64 i, .int .i64 f, .int .i64 t, .int .i64 n] }])[j]?) ∧ (∀ j, j ≤ m.length → NotOf mvv j → NotOf u j)) ∧ 
          All (fun i v => t' i = some v) [(0, .pointer (some ⟨ck, 0, none⟩)), (3, .pointer (some ⟨m.length + 0, 0, none⟩))]) ?_ ?_
        · (repeat' (first | ((with_reducible refine Step.id ?_); first | ((with_reducible apply Step.move); exact rfl; exact rfl) | ((with_reducible apply Step.load); exact rfl; (focus (decide +kernel)); exact rfl; (focus (exact hrm _))) | ((with_reducible apply Step.loadL (n := 4)); exact rfl; (focus (decide +kernel)); (focus (decide +kernel)); exact rfl; (focus (exact RdL.new rfl rfl)); exact rfl; exact rfl) | ((with_reducible apply Step.field (k := 259)); exact rfl; (focus (decide +kernel)); exact rfl) | ((with_reducible apply Step.nilp); exact rfl; exact rfl) | ((with_reducible apply Step.buildS 1); exact rfl; exact rfl; exact (fun _ _ => bs55v); exact rfl; (focus (first | (simp only [List.nil_append, List.cons_append, List.set_cons_zero, List.set_cons_succ, iv_set, bv_set, iv_rep, bv_rep]; done) | (simp only [List.nil_append, List.cons_append, List.set_cons_zero, List.set_cons_succ, iv_set, bv_set, iv_rep, bv_rep]; rfl) | rfl)))) | ((with_reducible apply AW.drawT fit (T := (.step 0 (.step 1 (.step 2 (.step 3 (.step 5 (.both (.step 4 (.step 6 (.step 7 (.step 8 (.step 9 (.step 10 .done)))))) (.step 6 (.step 4 (.step 7 (.step 8 (.step 9 (.step 10 .done)))))))))))))); (focus (decide +kernel))) | ((with_reducible apply AWt.step); exact rfl) | refine AWt.both ?_ ?_))
          all_goals ((with_reducible apply Step.appRow2 (n := K.mv.length) (xl := 1) (b0 := 0) (new := [.int .i64 i, .int .i64 f, .int .i64 t, .int .i64 n])); exact rfl; exact rfl; exact (h.row.old _); exact (Sl.mk (Nat.le_refl _)); exact (fun _ => RdL.new rfl rfl); exact el55; exact un55; exact rfl; exact rfl; exact rfl; (focus (omega)); exact rfl; exact (Nat.zero_le _))
          all_goals intro u X hr1 hml1 hk1 hk2
          all_goals have hXc : X[ck]? = some (some { cells := ckc bk K.at_ K.V q mvv false }) := by rw [hk1 ck (by rw [List.length_append]; omega) hap.1, List.getElem?_append_left hcl, h.cells, hd]
          all_goals obtain ⟨a9, kd9, sz9, _, _, rfl, _⟩ := hr1.pos (by omega)
          all_goals (repeat' (first | ((with_reducible refine Step.id ?_); first | ((with_reducible apply Step.field (k := 259)); exact rfl; (focus (decide +kernel)); exact rfl) | ((with_reducible apply Step.nilp); exact rfl; exact rfl)) | ((with_reducible apply AWt.step); exact rfl)))
          all_goals ((with_reducible apply Step.storeAt); exact rfl; exact rfl; exact hXc; exact sz55; exact rfl; (focus (rw [ckc_len hlV]; omega)); exact rfl; exact rfl)
          all_goals (repeat' (((with_reducible apply AWt.done))))
          all_goals refine ⟨rfl, _, ⟨X, by rw [Nat.zero_add, ckc_setM hlV], hXc, hr1, by rw [List.length_append] at hml1; simp at hml1; omega, fun j hj hn => ?_, fun j hj hn => hk2 j (by rw [List.length_append]; simp; omega) hn⟩, (by repeat (first | exact trivial | (refine And.intro rfl ?_)))⟩
          all_goals rw [hk1 j (by rw [List.length_append]; simp; omega) hn]
          all_goals exact get_two hj rfl
        · rintro t' M' ⟨u, ⟨X, hY, hXc, hrow, hXl, hXk, hXn⟩, hsl⟩
          refine Then.n ?_
          refine AW.weak (fr_all hsl) ?_
          clear hsl
          refine AW.rebase ?_
          have hnu : NotOf u ck := hXn ck (by omega) hap.1
          have hYc : M'[ck]? = some (some { cells := ckc bk K.at_ K.V q u false }) := by rw [hY]; exact set_hit hXc
          have hYl : M'.length = X.length := by rw [hY, List.length_set]
          have hYk : ∀ j, j ≠ ck → M'[j]? = X[j]? := fun j hj => by rw [hY, List.getElem?_set_ne (Ne.symm hj)]
          have hYr : Row M' 0 4 u (tcs K.mv ++ [.int .i64 i, .int .i64 f, .int .i64 t, .int .i64 n]) (K.mv.length + 1) := by rw [hY]; exact hrow.set hnu
          have hrd : ∀ T, RdL (M' ++ T) ck (0 + 2) (iv K.V) := fun T => RdL.old T ⟨_, hYc, fun j v hj => by
            have hj1 := (List.getElem?_eq_some_iff.1 hj).1
            rw [iv_len] at hj1
            rw [iv_get hj1] at hj
            rw [show 0 + 2 + j = 2 + j by omega, ckc_V hj1]
            exact hj⟩
          have hrt : ∀ T, RdL (M' ++ T) (m.length + 0) 0 [.int .i64 i, .int .i64 f, .int .i64 t, .int .i64 n] := fun T => RdL.old T ⟨{ cells := [.int .i64 i, .int .i64 f, .int .i64 t, .int .i64 n] }, by rw [hYk _ (by omega), hXk (m.length + 0) (by omega) (h.row.far (by omega)), get_app]; rfl, fun j v hj => by simpa using hj⟩
          have hwith := with1_ok (M := M') (x := ⟨i, f, t, n⟩) hok hlV hb hb1
          have hlw : (wth1 K.V ⟨i, f, t, n⟩).length = 256 := by rw [wth1_len]; exact hlV
          have hckl : ck < M'.length := by omega
          have hfin : ∀ T : AM, ClerkAt (List.set (M' ++ T) ck (some { cells := ckc bk K.at_ (wth1 K.V ⟨i, f, t, n⟩) q u false })) ck q u bk { at_ := K.at_, V := wth1 K.V ⟨i, f, t, n⟩, seen := K.seen, mv := K.mv ++ [⟨i, f, t, n⟩], done := false } ∧
              Keep (ckD ck q mvv) m (List.set (M' ++ T) ck (some { cells := ckc bk K.at_ (wth1 K.V ⟨i, f, t, n⟩) q u false })) ∧ ∀ j, j < m.length → NotOf mvv j → NotOf u j := fun T => by
            have hk : Keep (ckD ck q mvv) m (List.set (M' ++ T) ck (some { cells := ckc bk K.at_ (wth1 K.V ⟨i, f, t, n⟩) q u false })) := ⟨by rw [List.length_set, List.length_append]; omega, fun j hj hd => by
              have h1 : j ≠ ck := fun e => hd (.inl e)
              have h2 : NotOf mvv j := Classical.byContradiction fun e => hd (.inr (.inr e))
              rw [List.getElem?_set_ne (Ne.symm h1), List.getElem?_append_left (by omega), hYk j h1, hXk j (by omega) h2, List.getElem?_append_left hj]⟩
            obtain ⟨E, hE, hEs⟩ := h.map
            have hql := h.ltq
            refine ⟨⟨set_hit (get_old _ hYc), hlw, by have := h.lb; have := hk.len; omega, ⟨E, ?_, hEs⟩, ?_⟩, hk, fun j hj hn => hXn j (by omega) hn⟩
            · rw [List.getElem?_set_ne hne, List.getElem?_append_left (by omega), hYk q (Ne.symm hne), hXk q (by omega) hap.2, List.getElem?_append_left hql]
              exact hE
            · rw [tcs_app, List.length_append]
              exact (hYr.old T).set hnu
          (repeat' (first | ((with_reducible refine Step.id ?_); first | ((with_reducible apply Step.move); exact rfl; exact rfl) | ((with_reducible apply Step.loadL (n := 4)); exact rfl; (focus (decide +kernel)); (focus (decide +kernel)); exact rfl; (focus (exact hrt _)); exact rfl; exact rfl) | ((with_reducible apply Step.field (k := 2)); exact rfl; (focus (decide +kernel)); exact rfl) | ((with_reducible apply Step.nilp); exact rfl; exact rfl) | ((with_reducible apply Step.buildS 0); exact rfl; exact rfl; exact (fun _ _ => bs55v); exact rfl; (focus (first | (simp only [List.nil_append, List.cons_append, List.set_cons_zero, List.set_cons_succ, iv_set, bv_set, iv_rep, bv_rep]; done) | (simp only [List.nil_append, List.cons_append, List.set_cons_zero, List.set_cons_succ, iv_set, bv_set, iv_rep, bv_rep]; rfl) | rfl)))) | ((with_reducible apply AW.seq)) | ((with_reducible apply AW.drawT fit (T := (.step 0 (.step 1 (.step 2 (.step 3 (.step 5 (.both (.step 4 (.step 6 (.step 7 (.step 8 (.step 9 (.step 10 .done)))))) (.step 6 (.step 4 (.step 7 (.step 8 (.step 9 (.step 10 .done)))))))))))))); (focus (decide +kernel))) | ((with_reducible apply AWt.step); exact rfl) | refine AWt.both ?_ ?_))
          all_goals ((with_reducible apply Step.loadL (n := 256)); exact rfl; exact ag130; exact sz130; exact rfl; exact (hrd _); (focus (rw [iv_len, hlV])); exact rfl)
          all_goals (repeat' (first | ((with_reducible refine Step.id ?_); first | ((with_reducible apply Step.field (k := 2)); exact rfl; (focus (decide +kernel)); exact rfl) | ((with_reducible apply Step.nilp); exact rfl; exact rfl) | ((with_reducible apply Step.callR fit); exact rfl; exact Try.func87; exact rfl; exact rfl; exact (hwith)) | ((with_reducible apply Step.buildS 0); exact rfl; exact rfl; exact (fun _ _ => bs55v); exact rfl; (focus (first | (simp only [List.nil_append, List.cons_append, List.set_cons_zero, List.set_cons_succ, iv_set, bv_set, iv_rep, bv_rep]; done) | (simp only [List.nil_append, List.cons_append, List.set_cons_zero, List.set_cons_succ, iv_set, bv_set, iv_rep, bv_rep]; rfl) | rfl)))) | ((with_reducible apply AWt.step); exact rfl)))
          all_goals ((with_reducible apply Step.storeL); exact rfl; exact rfl; exact (get_old _ hYc); exact rfl; exact sz130; (focus (rw [iv_len, hlw])); exact (iv_all1 _); (focus (rw [ckc_len hlV]; omega)))
          all_goals (repeat (first | (with_reducible refine AWo.cons ?_) | ((with_reducible refine Step.id ?_); ((with_reducible apply Step.assign); exact rfl; exact rfl)) | (with_reducible refine AWo.nil ?_) | ((with_reducible apply AW.seq)) | ((with_reducible apply Then.n)) | ((with_reducible apply AW.regL)) | ((with_reducible apply AWt.done))))
          all_goals (refine AW.ret ?_; (repeat (first | refine Then.r ?_ | refine InBlk.r ?_)))
          all_goals refine ⟨_, rfl, u, rfl, ?_⟩
          all_goals rw [Nat.zero_add, ckc_setV hlV hlw]
          all_goals exact hfin _
end Go.Proofs.Ytabdnepfcohncaa.Abs
namespace Go.Proofs.Ytabdnepfcohncaa.Abs
set_option linter.unusedSimpArgs false
set_option linter.unusedVariables false
open Go.RowKit
open Go.Proofs.Ytabdnepfcohncaa.Sim
open Go.Proofs
theorem fill_fold : ∀ (l : List Value) (cs : List Value) (off k : Nat), off + k + l.length ≤ cs.length → (l.zipIdx k).foldl (fun (cs : Array Value) (x : Value × Nat) => cs.setIfInBounds (off + x.2) x.1) cs.toArray = (splice cs (off + k) l).toArray
  | [], cs, off, k, h => by simp [splice]
  | v :: l, cs, off, k, h => by
    rw [List.zipIdx_cons, List.foldl_cons]
    have h1 : (cs.toArray.setIfInBounds (off + k) v) = (cs.set (off + k) v).toArray := by simp
    show List.foldl _ (cs.toArray.setIfInBounds (off + k) v) _ = _
    rw [h1, fill_fold l _ off (k + 1) (by simp at h ⊢; omega)]
    congr 1
    unfold splice
    simp only [List.length_cons] at h ⊢
    apply List.ext_getElem?
    intro j
    have e1 : (List.take (off + (k + 1)) (cs.set (off + k) v)) = List.take (off + k) cs ++ [v] := by
      rw [show off + (k + 1) = off + k + 1 by omega, List.take_succ_eq_append_getElem (by simp; omega), List.take_set_of_le (Nat.le_refl _)]
      simp
    rw [e1]
    rw [List.drop_set_of_lt (by omega)]
    simp [Nat.add_assoc, Nat.add_comm 1]
theorem fill_cons {place : Nat → Option (Nat × Nat)} {cs : List Value} {i : Nat} {v : Value} {rest : List (Nat × Value)} {off size : Nat} (h : place i = some (off, size)) (hs : v.cells.size = size) (hb : off + size ≤ cs.length) :
    Instr.fill place cs.toArray ((i, v) :: rest) = Instr.fill place (splice cs off v.cells.toList).toArray rest := by
  have hf := fill_fold v.cells.toList cs off 0 (by simp; omega)
  rw [Nat.add_zero] at hf
  rw [Instr.fill]
  simp only [h]
  rw [if_neg (by simp; omega)]
  congr 1
  rw [← hf, ← Array.foldl_toList, Array.toList_zipIdx]
def ckz : List Value := .pointer none :: .int .i64 0 :: (iv (List.replicate 256 0) ++ [.map none, .slice none 0 0, .bool false])
theorem built138 (parts : List (Nat × Value)) : Try.prog.built 138 parts = Instr.fill ([(0, 1), (1, 1), (2, 256), (258, 1), (259, 1), (260, 1)].toArray[·]?) ckz.toArray parts := by kernel_rfl
theorem ze138 : (zeroB Try.prog 138).isSome = true := by kernel_rfl
theorem splice_V {a b : Value} {V V' : List Int} {L : List Value} (hV : V.length = 256) (hV' : V'.length = 256) : splice (a :: b :: (iv V ++ L)) 2 (iv V') = a :: b :: (iv V' ++ L) := by
  unfold splice
  rw [iv_len, hV']
  show [a, b] ++ iv V' ++ (iv V ++ L).drop 256 = _
  rw [List.drop_append, List.drop_eq_nil_of_le (by rw [iv_len]; omega), iv_len, hV]
  simp
theorem splice_r {a b x y : Value} {V : List Int} {L : List Value} (hV : V.length = 256) : splice (a :: b :: (iv V ++ x :: L)) 258 [y] = a :: b :: (iv V ++ y :: L) := by
  unfold splice
  rw [show 258 = 256 + 1 + 1 by omega, List.take_succ_cons, List.take_succ_cons, List.take_left' (by rw [iv_len, hV])]
  show a :: b :: iv V ++ [y] ++ (iv V ++ x :: L).drop 257 = _
  rw [List.drop_append, List.drop_eq_nil_of_le (by rw [iv_len]; omega), iv_len, hV]
  simp
set_option maxRecDepth 100000 in
theorem bl138 {bk q : Nat} {a : Nat} {H : List Int} (hH : H.length = 256) : abuild Try.prog 138 [(0, .pointer (some ⟨bk, 0, none⟩)), (1, .int .i64 (a : Nat)), (2, .agg (iv H).toArray), (3, .map (some q))] = some (.agg (ckc bk a H q (.slice none 0 0) false).toArray) := by
  unfold abuild
  have hz := ze138
  cases h : zeroB Try.prog 138 with
  | none => rw [h] at hz; cases hz
  | some z =>
    simp only
    rw [built138]
    have hl : (List.replicate 256 (0 : Int)).length = 256 := List.length_replicate
    have hk : ckz.length = 261 := rfl
    rw [fill_cons (off := 0) (size := 1) rfl rfl (by rw [hk]; omega)]
    have e1 : splice ckz 0 (Value.pointer (some ⟨bk, 0, none⟩)).cells.toList = .pointer (some ⟨bk, 0, none⟩) :: .int .i64 0 :: (iv (List.replicate 256 0) ++ [.map none, .slice none 0 0, .bool false]) := rfl
    rw [e1, fill_cons (off := 1) (size := 1) rfl rfl (by simp [iv_len])]
    have e2 : splice (.pointer (some ⟨bk, 0, none⟩) :: .int .i64 0 :: (iv (List.replicate 256 0) ++ [.map none, .slice none 0 0, .bool false])) 1 (Value.int .i64 (a : Nat)).cells.toList = .pointer (some ⟨bk, 0, none⟩) :: .int .i64 (a : Nat) :: (iv (List.replicate 256 0) ++ [.map none, .slice none 0 0, .bool false]) := rfl
    rw [e2, fill_cons (off := 2) (size := 256) rfl (by show (iv H).toArray.size = 256; rw [List.size_toArray, iv_len, hH]) (by simp [iv_len])]
    rw [show (Value.agg (iv H).toArray).cells.toList = iv H from rfl, splice_V hl hH]
    rw [fill_cons (off := 258) (size := 1) rfl rfl (by simp [iv_len, hH])]
    rw [show (Value.map (some q)).cells.toList = [.map (some q)] from rfl, splice_r hH]
    rfl
theorem ckc_one {bk a q : Nat} {H : List Int} {b : Bool} : (Value.agg (ckc bk a H q (.slice none 0 0) b).toArray).cells.all (·.oneCell') = true := by
  have h := iv_one H
  show (ckc bk a H q (.slice none 0 0) b).toArray.all (·.oneCell') = true
  rw [List.all_toArray]
  unfold ckc
  simp only [List.all_cons, List.all_append, h]
  rfl
set_option maxHeartbeats 8000000 in
set_option maxRecDepth 100000 in
theorem Begin_ok {m : AM} {b0 bk : Nat} {B : Bk} {pv : Value} (h : BookAt m b0 bk B pv) : ACall Try.prog 30 #[.pointer (some ⟨bk, 0, none⟩)] m (fun r M => r = .pointer (some ⟨m.length + 1, 0, none⟩) ∧ ClerkAt M (m.length + 1) (m.length + 0) (.slice none 0 0) bk ⟨B.P.length, B.H, [], [], false⟩ ∧ ∃ N, M = m ++ N) := by
  have hnone := fun T => none_ok (m := m ++ T) (bk := bk) (Rd.old T ⟨_, h.cells, bkc_0⟩)
  have hbk := h.lt
  have rp := fun T => Rd.old T (show Rd m bk 513 pv from ⟨_, h.cells, bkc_P h.lH h.lC⟩)
  obtain ⟨pc, hrow, hps⟩ := h.row
  obtain ⟨ar, r1, r2, r3⟩ := hrow.sl (by omega)
  have hlH := h.lH
  have hrd : ∀ T, RdL (m ++ T) bk 1 (iv B.H) := fun T => RdL.old T ⟨_, h.cells, fun j x hj => by
    have hj1 := (List.getElem?_eq_some_iff.1 hj).1
    rw [iv_len] at hj1
    rw [iv_get hj1] at hj
    rw [bkc_H hj1]
    exact hj⟩
  have hbl := bl138 (bk := bk) (q := m.length + 0) (a := B.P.length) hlH
  have hw1 := ckc_one (bk := bk) (a := B.P.length) (q := m.length + 0) (H := B.H) (b := false)
  have hfin : ClerkAt (m ++ [some (mapB []), some { cells := ckc bk B.P.length B.H (m.length + 0) (.slice none 0 0) false }]) (m.length + 1) (m.length + 0) (.slice none 0 0) bk ⟨B.P.length, B.H, [], [], false⟩ :=
    ⟨by rw [get_app]; rfl, hlH, by rw [List.length_append]; omega, ⟨[], by rw [get_app]; rfl, fun x => by simp⟩, Row.nil⟩
  refine ACall.start Try.func30 rfl rfl ?_
  (repeat' (first | (with_reducible refine AWo.cons ?_) | ((with_reducible refine Step.id ?_); first | ((with_reducible apply Step.move); exact rfl; exact rfl) | ((with_reducible apply Step.assign); exact rfl; exact rfl) | ((with_reducible apply Step.load); exact rfl; (focus (decide +kernel)); exact rfl; (focus (exact rp _))) | ((with_reducible apply Step.field (k := 1)); exact rfl; (focus (decide +kernel)); exact rfl) | ((with_reducible apply Step.field (k := 513)); exact rfl; (focus (decide +kernel)); exact rfl) | ((with_reducible apply Step.len); exact rfl; (focus (assumption)); (focus (decide +kernel)); exact rfl) | ((with_reducible apply Step.nilp); exact rfl; exact rfl) | ((with_reducible apply Step.callR fit); exact rfl; exact Try.func83; exact rfl; exact rfl; exact (hnone _)) | ((with_reducible apply Step.newMap 0); exact rfl; exact rfl; (focus (first | (simp only [List.nil_append, List.cons_append, List.set_cons_zero, List.set_cons_succ, iv_set, bv_set, iv_rep, bv_rep]; done) | (simp only [List.nil_append, List.cons_append, List.set_cons_zero, List.set_cons_succ, iv_set, bv_set, iv_rep, bv_rep]; rfl) | rfl)))) | (with_reducible refine AWo.nil ?_) | ((with_reducible apply AW.seq)) | ((with_reducible apply Then.n)) | ((with_reducible apply AW.regL)) | ((with_reducible apply AW.drawT fit (T := (.step 0 (.step 1 (.step 2 (.step 3 (.step 6 (.step 7 (.step 8 (.both (.step 4 (.step 5 (.both (.step 9 (.step 10 (.step 11 (.step 12 (.step 13 .done))))) (.step 10 (.step 9 (.step 11 (.step 12 (.step 13 .done)))))))) (.both (.step 9 (.both (.step 4 (.step 5 (.step 10 (.step 11 (.step 12 (.step 13 .done)))))) (.step 10 (.step 4 (.step 5 (.step 11 (.step 12 (.step 13 .done)))))))) (.step 10 (.step 4 (.step 5 (.step 9 (.step 11 (.step 12 (.step 13 .done)))))))))))))))))); (focus (decide +kernel))) | ((with_reducible apply AWt.step); exact rfl) | ((with_reducible apply AW.skip)) | ((with_reducible apply AW.condF); exact rfl; (focus (rfl))) | refine AWt.both ?_ ?_))
  all_goals ((with_reducible apply Step.loadL (n := 256)); exact rfl; exact ag130; exact sz130; exact rfl; exact (hrd _); (focus (rw [iv_len, hlH])); exact rfl)
  all_goals (repeat' (first | ((with_reducible refine Step.id ?_); first | ((with_reducible apply Step.assign); exact rfl; exact rfl) | ((with_reducible apply Step.load); exact rfl; (focus (decide +kernel)); exact rfl; (focus (exact rp _))) | ((with_reducible apply Step.len); exact rfl; (focus (assumption)); (focus (decide +kernel)); exact rfl) | ((with_reducible apply Step.newMap 0); exact rfl; exact rfl; (focus (first | (simp only [List.nil_append, List.cons_append, List.set_cons_zero, List.set_cons_succ, iv_set, bv_set, iv_rep, bv_rep]; done) | (simp only [List.nil_append, List.cons_append, List.set_cons_zero, List.set_cons_succ, iv_set, bv_set, iv_rep, bv_rep]; rfl) | rfl))) | ((with_reducible apply Step.box 1); exact rfl; exact rfl; (focus (first | assumption | exact hw1)); exact rfl; (focus (first | (simp only [List.nil_append, List.cons_append, List.set_cons_zero, List.set_cons_succ, iv_set, bv_set, iv_rep, bv_rep]; done) | (simp only [List.nil_append, List.cons_append, List.set_cons_zero, List.set_cons_succ, iv_set, bv_set, iv_rep, bv_rep]; rfl) | rfl))) | ((with_reducible apply Step.build); exact rfl; exact hbl; exact rfl)) | ((with_reducible apply Then.n)) | ((with_reducible apply AWt.step); exact rfl) | ((with_reducible apply AWt.done)) | refine AWt.both ?_ ?_))
  all_goals (refine AW.ret ?_; (repeat (first | refine Then.r ?_ | refine InBlk.r ?_)))
  all_goals exact ⟨_, rfl, rfl, hfin, _, rfl⟩
end Go.Proofs.Ytabdnepfcohncaa.Abs
namespace Go.Proofs.Ytabdnepfcohncaa.Abs
set_option linter.unusedSimpArgs false
set_option linter.unusedVariables false
open Go.RowKit
open Go.Proofs.Ytabdnepfcohncaa.Sim
open Go.Proofs
/-- The counts that transfers touch. -/
def kyL (l : List Tr) : List (Int × Int) := l.flatMap fun t => [(t.f, t.i), (t.t, t.i)]
def cAt (B : Bk) (x : Int × Int) : Int := B.C.getD (x.1.toNat * 16 + x.2.toNat) 0
/-- A count that the clerk saw or touched has changed since. -/
def stale (K : Ck) (B : Bk) : Bool := (K.seen ++ kyL K.mv).any fun x => decide ((K.at_ : Int) < cAt B x)
/-- Commit, of a clerk that is not done: the number, the error, the book behind it. -/
def coF (K : Ck) (B : Bk) : Int × Int × Bk := if K.mv.length = 0 then (0, 2, B) else if stale K B = true then (0, 12, B) else ((postF B K.mv).2.1, (postF B K.mv).2.2, (postF B K.mv).1)
/-- A clerk that is done. -/
def DoneC (M : AM) (ck bk : Nat) : Prop := ∃ b, M[ck]? = some (some b) ∧ b.kind.mine = true ∧ b.cells[0]? = some (.pointer (some ⟨bk, 0, none⟩)) ∧ b.cells[260]? = some (.bool true) ∧ bk < M.length
theorem BookAt.keepD {D : Nat → Prop} {m M : AM} {b0 bk : Nat} {B : Bk} {pv : Value} (h : BookAt m b0 bk B pv) (hk : Keep D m M) (h1 : ¬ D bk) (h2 : ∀ j, D j → NotOf pv j) (h3 : ∀ j x, D j → ¬ Rd m j 0 (.int .i64 x)) : BookAt M b0 bk B pv := by
  obtain ⟨a1, a2, a3, a4, pc, a5, a6⟩ := id h
  refine ⟨a1, by rw [hk.get bk h.lt h1]; exact a2, a3, a4, pc, a5.keep fun j hj hn => hk.get j hj fun e => hn (h2 j e), fun k hk' => ?_⟩
  obtain ⟨u, k1, k2⟩ := a6 k hk'
  exact ⟨u, k1, k2.keep hk.len fun a ha hr => hk.get a ha fun e => h3 a _ e hr⟩
theorem kyL_snoc (l : List Tr) (x : Tr) : kyL (l ++ [x]) = kyL l ++ [(x.f, x.i), (x.t, x.i)] := by simp [kyL]
theorem Rd.setq {M : AM} {i q o : Nat} {b : Option Blk} {v : Value} (hne : i ≠ q) (h : Rd M i o v) : Rd (List.set M q b) i o v := by
  obtain ⟨c, h1, h2⟩ := h
  exact ⟨c, by rw [List.getElem?_set_ne (Ne.symm hne)]; exact h1, h2⟩
theorem or3 {a b c : Prop} : ((a ∨ b) ∨ c) ↔ (a ∨ b ∨ c) := or_assoc
theorem or3' {a b c : Prop} : ((a ∨ c) ∨ b) ↔ (a ∨ b ∨ c) := by rw [or_assoc, or_comm (a := c)]
set_option maxHeartbeats 16000000 in
set_option maxRecDepth 100000 in
theorem Commit_ok {m : AM} {b0 ck q bk : Nat} {B : Bk} {pv mvv : Value} {K : Ck} (h : BookAt m b0 bk B pv) (hc : ClerkAt m ck q mvv bk K) (hd : K.done = false) (s1 : ck ≠ bk) (s2 : NotOf pv ck) (s3 : q ≠ bk) (s4 : NotOf pv q) (s5 : ∀ j, ¬ NotOf mvv j → j ≠ bk ∧ NotOf pv j)
    (hin : ∀ x ∈ K.seen, inB x.1 x.2 = true) (hok : K.mv.all okT = true) (hml : K.mv.length ≤ 16) (hbd : Bd B.H 1000000000) (hpl : B.P.length ≤ 1000000) : ACall Try.prog 41 #[.pointer (some ⟨ck, 0, none⟩)] m
    (fun r M => ∃ u, r = .tuple #[.int .i64 (coF K B).1, .int .i64 (coF K B).2.1] ∧ BookAt M b0 bk (coF K B).2.2 u ∧ DoneC M ck bk ∧ Keep (fun j => j = ck ∨ j = q ∨ bkD bk pv j) m M ∧ (∀ j, j < m.length → NotOf pv j → NotOf u j) ∧ ((coF K B).2.2.P.length = 0 → u = pv)) := by
  have hbusy := fun T => busy_ok (m := m ++ T) (dn := K.done) (hc.rd T).1 (hc.rd T).2.2.2.2
  have hcl := hc.lt
  have hne := hc.ne
  have hql := hc.ltq
  have hbl := h.lt
  have hlV := hc.lV
  have hap := hc.apart
  have hcells := hc.cells
  rw [hd] at hbusy hcells
  simp only [Bool.false_eq_true, if_false] at hbusy
  have hlen := ckc_len (bk := bk) (at_ := K.at_) (q := q) (mvv := mvv) (done := false) hlV
  obtain ⟨am, r1, r2, r3⟩ := hc.row.sl (by omega)
  obtain ⟨E0, hE0, hEs⟩ := hc.map
  refine ACall.start Try.func41 rfl rfl ?_
  (repeat (first | (with_reducible refine AWo.cons ?_) | ((with_reducible refine Step.id ?_); first | ((with_reducible apply Step.move); exact rfl; exact rfl) | ((with_reducible apply Step.assign); exact rfl; exact rfl) | ((with_reducible apply Step.field (k := 260)); exact rfl; (focus (decide +kernel)); exact rfl) | ((with_reducible apply Step.neq); exact rfl; exact rfl; exact rfl) | ((with_reducible apply Step.nilp); exact rfl; exact rfl) | ((with_reducible apply Step.callR fit); exact rfl; exact Try.func91; exact rfl; exact rfl; exact (hbusy _))) | (with_reducible refine AWo.nil ?_) | ((with_reducible apply AW.seq)) | ((with_reducible apply Then.n)) | ((with_reducible apply AW.regL)) | ((with_reducible apply AW.skip)) | ((with_reducible apply AW.condF); exact rfl; (focus (rfl)))))
  ((with_reducible apply Step.storeAt); exact rfl; exact rfl; exact (get_old _ hcells); (focus (kernel_rfl)); exact rfl; (focus (rw [hlen]; omega)); exact rfl; exact rfl)
  rw [Nat.zero_add, ckc_setD hlV, List.append_nil]
  obtain ⟨X, hX⟩ : ∃ X : AM, X = List.set m ck (some { cells := ckc bk K.at_ K.V q mvv true }) := ⟨_, rfl⟩
  have hXc : X[ck]? = some (some { cells := ckc bk K.at_ K.V q mvv true }) := by rw [hX]; exact set_hit hcells
  have hXk : Keep (· = ck) m X := ⟨by rw [hX, List.length_set]; exact Nat.le_refl _, fun j hj hne => by rw [hX, List.getElem?_set_ne (Ne.symm hne)]⟩
  have hXl : X.length = m.length := by rw [hX, List.length_set]
  have hXm := fun T => Rd.old T (show Rd X ck 259 mvv from ⟨_, hXc, ckc_m hlV⟩)
  have hXq : X[q]? = some (some (mapB E0)) := by rw [hXk.get q hql (Ne.symm hne)]; exact hE0
  have hXr : Row X 0 4 mvv (tcs K.mv) K.mv.length := hc.row.keep fun j hj hn => hXk.get j hj fun e => hn (e ▸ hap.1)
  rw [← hX, ← List.append_nil X]
  have h3 : ∀ j x, (j = ck ∨ j = q) → ¬ Rd m j 0 (.int .i64 x) := by
    rintro j x (rfl | rfl) ⟨b, w1, w2⟩
    · rw [hcells] at w1
      simp only [Option.some.injEq] at w1
      subst w1
      rw [ckc_0] at w2
      cases w2
    · rw [hE0] at w1
      simp only [Option.some.injEq] at w1
      subst w1
      cases w2
  have hbook : ∀ M, Keep (fun j => j = ck ∨ j = q) m M → BookAt M b0 bk B pv := fun M hk => h.keepD hk (by rintro (e | e); exact s1 e.symm; exact s3 e.symm) (by rintro j (rfl | rfl); exact s2; exact s4) h3
  have hdone : ∀ M, m.length ≤ M.length → M[ck]? = some (some { cells := ckc bk K.at_ K.V q mvv true }) → DoneC M ck bk := fun M hl hM => ⟨_, hM, rfl, ckc_0, ckc_d hlV, by omega⟩
  unfold coF
  by_cases h0 : K.mv.length = 0
  · simp only [h0, if_true]
    (repeat (first | (with_reducible refine AWo.cons ?_) | ((with_reducible refine Step.id ?_); first | ((with_reducible apply Step.move); exact rfl; exact rfl) | ((with_reducible apply Step.assign); exact rfl; exact rfl) | ((with_reducible apply Step.load); exact rfl; (focus (decide +kernel)); exact rfl; (focus (exact hXm _))) | ((with_reducible apply Step.field (k := 259)); exact rfl; (focus (decide +kernel)); exact rfl) | ((with_reducible apply Step.eql); exact rfl; exact rfl; exact rfl) | ((with_reducible apply Step.len); exact rfl; (focus (assumption)); (focus (decide +kernel)); exact rfl) | ((with_reducible apply Step.nilp); exact rfl; exact rfl)) | (with_reducible refine AWo.nil ?_) | ((with_reducible apply AW.seq)) | ((with_reducible apply Then.n)) | ((with_reducible apply AW.regL)) | ((with_reducible apply AW.condT); exact rfl; (focus ((simp only [decide_eq_true_eq, decide_eq_false_iff_not, Bool.not_eq_true', Bool.not_eq_false', Bool.not_true, Bool.not_false]; first | assumption | omega))))))
    (refine AW.ret ?_; (repeat (first | refine Then.r ?_ | refine InBlk.r ?_)))
    refine ⟨_, rfl, pv, rfl, hbook _ ((hXk.mono fun j e => .inl e).trans (Keep.app (fun _ => False) _ _) (fun _ _ e => e.elim)), hdone _ (by rw [List.length_append]; omega) (get_old _ hXc), (hXk.mono fun j e => .inl e).trans (Keep.app (fun _ => False) _ _) (fun _ _ e => e.elim), fun _ _ hn => hn, fun _ => rfl⟩
  · simp only [h0, if_false]
    clear r1 r2 r3
    obtain ⟨am, kd, sz, _, hal, rfl, hma⟩ := hc.row.pos (by omega)
    (repeat (first | (with_reducible refine AWo.cons ?_) | ((with_reducible refine Step.id ?_); first | ((with_reducible apply Step.move); exact rfl; exact rfl) | ((with_reducible apply Step.load); exact rfl; (focus (decide +kernel)); exact rfl; (focus (exact hXm _))) | ((with_reducible apply Step.field (k := 259)); exact rfl; (focus (decide +kernel)); exact rfl) | ((with_reducible apply Step.eql); exact rfl; exact rfl; exact rfl) | ((with_reducible apply Step.len); exact rfl; (focus (exact Sl.mk (by omega))); (focus (decide +kernel)); exact rfl) | ((with_reducible apply Step.nilp); exact rfl; exact rfl)) | (with_reducible refine AWo.nil ?_) | ((with_reducible apply AW.seq)) | ((with_reducible apply Then.n)) | ((with_reducible apply AW.regL)) | ((with_reducible apply AW.block)) | ((with_reducible apply AW.skip)) | ((with_reducible apply AW.condF); exact rfl; (focus ((simp only [decide_eq_true_eq, decide_eq_false_iff_not, Bool.not_eq_true', Bool.not_eq_false', Bool.not_true, Bool.not_false]; first | assumption | omega))))))
    refine AW.midX 0 (fun t' M => ∃ E, Keep (fun j => j = ck ∨ j = q) m M ∧ M[ck]? = some (some { cells := ckc bk K.at_ K.V q (.slice (some ⟨am, 0, none⟩) K.mv.length K.mv.length) true }) ∧ M[q]? = some (some (mapB E)) ∧ (∀ x, x ∈ E.map Prod.fst ↔ x ∈ K.seen ∨ x ∈ kyL K.mv) ∧ All (fun i v => t' i = some v) [(0, .pointer (some ⟨ck, 0, none⟩))]) ?_ ?_
    · refine AW.loopW (fun n t M => ∃ (k : Nat) (E : Ents), n = K.mv.length - k ∧ k ≤ K.mv.length ∧ Keep (fun j => j = ck ∨ j = q) m M ∧ M[ck]? = some (some { cells := ckc bk K.at_ K.V q (.slice (some ⟨am, 0, none⟩) K.mv.length K.mv.length) true }) ∧ M[q]? = some (some (mapB E)) ∧ (∀ x, x ∈ E.map Prod.fst ↔ x ∈ K.seen ∨ x ∈ kyL (K.mv.take k)) ∧
        t = fr [(0, .pointer (some ⟨ck, 0, none⟩)), (25, .slice (some ⟨am, 0, none⟩) K.mv.length K.mv.length), (26, .int .i64 (K.mv.length : Nat)), (27, .int .i64 (k : Nat))])
        ⟨_, _, (by repeat (first | exact trivial | (refine And.intro rfl ?_))), 0, E0, rfl, Nat.zero_le _, by rw [List.append_nil]; exact hXk.mono fun j e => .inl e, by rw [List.append_nil]; exact hXc, by rw [List.append_nil]; exact hXq, fun x => by rw [hEs]; simp [kyL], rfl⟩ ?_
      rintro n t M ⟨k, E, rfl, hk, hMk, hMc, hMq, hMs, rfl⟩
      have hrq := fun T => Rd.old T (show Rd M ck 258 (.map (some q)) from ⟨_, hMc, ckc_q hlV⟩)
      have hMl := hMk.len
      rcases Nat.lt_or_ge k K.mv.length with hlt | hge
      · have hMa : M[am]? = some (some { cells := tcs K.mv, kind := kd, size := sz }) := by
          rw [hMk.get am hal (by rintro (e | e); exact hap.1 _ _ (by rw [e]); exact hap.2 _ _ (by rw [e]))]; exact hma
        have hr : ∀ T, RdL (M ++ T) am (k * 4) (K.mv.getD k default).c := fun T => RdL.old T ⟨_, hMa, fun j v hj => tcs_get _ k hlt j v hj⟩
        have ts := take_snocT K.mv k hlt
        generalize K.mv.getD k default = x at *
        obtain ⟨xi, xf, xt, xn⟩ := x
        simp only [Tr.c] at hr
        have hky : ∀ E' : Ents, (∀ y, y ∈ E'.map Prod.fst ↔ (y ∈ E.map Prod.fst ∨ y = (xf, xi) ∨ y = (xt, xi))) → ∀ y, y ∈ E'.map Prod.fst ↔ y ∈ K.seen ∨ y ∈ kyL (K.mv.take (k + 1)) := fun E' h y => by
          rw [h, hMs, ts, kyL_snoc]
          simp only [List.mem_append, List.mem_cons, List.not_mem_nil, or_false, or_assoc]
        have hfin : ∀ (T : AM) (E' : Ents), Keep (fun j => j = ck ∨ j = q) m (List.set (M ++ T) q (some (mapB E'))) ∧ (List.set (M ++ T) q (some (mapB E')))[ck]? = some (some { cells := ckc bk K.at_ K.V q (.slice (some ⟨am, 0, none⟩) K.mv.length K.mv.length) true }) ∧ (List.set (M ++ T) q (some (mapB E')))[q]? = some (some (mapB E')) := fun T E' =>
          ⟨⟨by rw [List.length_set, List.length_append]; omega, fun j hj hn => by rw [List.getElem?_set_ne (fun e => hn (.inr e.symm)), List.getElem?_append_left (by omega)]; exact hMk.get j hj hn⟩, by rw [List.getElem?_set_ne (Ne.symm hne)]; exact get_old _ hMc, set_hit (get_old _ hMq)⟩
        have hss : ∀ (T : AM) (a b : Option Blk), List.set (List.set (M ++ T) q a) q b = List.set (M ++ T) q b := fun T a b => List.set_set ..
        refine AW.rebase ?_
        have hq6 : M.length + 0 ≠ q := by omega
        have hq7 : q < M.length := by omega
        (repeat' (first | (with_reducible refine AWo.cons ?_) | ((with_reducible refine Step.id ?_); first | ((with_reducible apply Step.move); exact rfl; exact rfl) | ((with_reducible apply Step.load); exact rfl; (focus (decide +kernel)); exact rfl; (focus (first | exact hrq _ | exact Rd.setl hq7 rfl rfl | exact Rd.setq hq6 (Rd.setl hq7 rfl rfl) | exact Rd.new rfl rfl))) | ((with_reducible apply Step.loadL (n := 4)); exact rfl; (focus (decide +kernel)); (focus (decide +kernel)); exact rfl; (focus (exact hr _)); exact rfl; exact rfl) | ((with_reducible apply Step.ixz (s := 4)); exact rfl; (focus (exact Sl.mk (by omega))); exact rfl; (focus (decide +kernel)); exact rfl; (focus (omega))) | ((with_reducible apply Step.field0); exact rfl; (focus (decide +kernel)); exact rfl) | ((with_reducible apply Step.field (k := 1)); exact rfl; (focus (decide +kernel)); exact rfl) | ((with_reducible apply Step.field (k := 2)); exact rfl; (focus (decide +kernel)); exact rfl) | ((with_reducible apply Step.field (k := 258)); exact rfl; (focus (decide +kernel)); exact rfl) | ((with_reducible apply Step.add); exact rfl; exact rfl; (focus (omega)); exact rfl) | ((with_reducible apply Step.lss); exact rfl; exact rfl; exact rfl) | ((with_reducible apply Step.nilp); exact rfl; exact rfl) | ((with_reducible apply Step.extract); exact rfl; exact rfl; exact rfl) | ((with_reducible apply Step.mapEntP); exact rfl; exact rfl; (focus (repeat (first | assumption | exact get_old _ (by assumption) | apply set_hit))); exact rfl) | ((with_reducible apply Step.entStore); exact rfl; exact rfl; exact rfl; (focus (repeat (first | assumption | exact get_old _ (by assumption) | apply set_hit))); (focus (first | assumption | omega | (simp only [putE_len]; first | assumption | omega | exact addK_len _ _ | exact addK_len2 _ _ _ _)  | exact addK_len _ _ | exact addK_len2 _ _ _ _))) | ((with_reducible apply Step.alloc 0); exact rfl; exact ze63; exact rfl; (focus (first | (simp only [List.nil_append, List.cons_append, List.set_cons_zero, List.set_cons_succ, iv_set, bv_set, iv_rep, bv_rep]; done) | (simp only [List.nil_append, List.cons_append, List.set_cons_zero, List.set_cons_succ, iv_set, bv_set, iv_rep, bv_rep]; rfl) | rfl))) | ((with_reducible apply Step.storeA (k := 0) (n := 4)); exact rfl; exact rfl; exact rfl; exact rfl; (focus (decide +kernel)); exact rfl; (focus (kernel_rfl)); exact rfl; (focus (first | (simp only [List.nil_append, List.cons_append, List.set_cons_zero, List.set_cons_succ, iv_set, bv_set, iv_rep, bv_rep]; done) | (simp only [List.nil_append, List.cons_append, List.set_cons_zero, List.set_cons_succ, iv_set, bv_set, iv_rep, bv_rep]; rfl) | rfl))) | ((with_reducible apply Step.build); exact rfl; exact bl155; exact rfl)) | (with_reducible refine AWo.nil ?_) | ((with_reducible apply AW.seq)) | ((with_reducible apply Then.n)) | ((with_reducible apply AW.regL)) | ((with_reducible apply AW.block)) | ((with_reducible apply AW.drawT fit (T := (.step 0 (.step 1 (.step 2 (.step 3 (.step 4 (.step 5 (.step 6 (.step 7 (.step 8 (.step 9 (.step 10 (.step 11 (.step 12 (.step 13 (.step 15 (.both (.step 14 (.both (.step 16 (.step 17 (.step 18 (.step 19 (.step 20 (.step 21 (.step 22 (.step 23 .done)))))))) (.step 18 (.step 19 (.both (.step 16 (.step 17 (.step 20 (.step 21 (.step 22 (.step 23 .done)))))) (.step 20 (.step 16 (.step 17 (.step 21 (.step 22 (.step 23 .done))))))))))) (.both (.step 16 (.both (.step 14 (.step 17 (.step 18 (.step 19 (.step 20 (.step 21 (.step 22 (.step 23 .done)))))))) (.step 18 (.step 19 (.both (.step 14 (.step 17 (.step 20 (.step 21 (.step 22 (.step 23 .done)))))) (.step 20 (.step 14 (.step 17 (.step 21 (.step 22 (.step 23 .done))))))))))) (.step 18 (.step 19 (.both (.step 14 (.both (.step 16 (.step 17 (.step 20 (.step 21 (.step 22 (.step 23 .done)))))) (.step 20 (.step 16 (.step 17 (.step 21 (.step 22 (.step 23 .done)))))))) (.both (.step 16 (.both (.step 14 (.step 17 (.step 20 (.step 21 (.step 22 (.step 23 .done)))))) (.step 20 (.step 14 (.step 17 (.step 21 (.step 22 (.step 23 .done)))))))) (.step 20 (.step 14 (.step 16 (.step 17 (.step 21 (.step 22 (.step 23 .done)))))))))))))))))))))))))))))); (focus (decide +kernel))) | ((with_reducible apply AWt.step); exact rfl) | ((with_reducible apply AWt.done)) | ((with_reducible apply InBlk.n)) | ((with_reducible apply AW.skip)) | ((with_reducible apply AW.condT); exact rfl; (focus ((simp only [decide_eq_true_eq, decide_eq_false_iff_not, Bool.not_eq_true', Bool.not_eq_false', Bool.not_true, Bool.not_false]; first | assumption | omega)))) | refine AWt.both ?_ ?_))
        all_goals simp only [hss]
        all_goals exact ⟨_, [(0, .pointer (some ⟨ck, 0, none⟩)), (25, .slice (some ⟨am, 0, none⟩) K.mv.length K.mv.length), (26, .int .i64 (K.mv.length : Nat)), (27, .int .i64 (k + 1 : Nat))], by omega, (by repeat (first | exact trivial | (refine And.intro rfl ?_))), k + 1, _, rfl, by omega, (hfin _ _).1, (hfin _ _).2.1, (hfin _ _).2.2, hky _ (fun y => by simp only [putE_fst, addK_fst]; first | exact or3 | exact or3'), rfl⟩
      · obtain rfl : k = K.mv.length := by omega
        rw [List.take_length] at hMs
        (repeat (first | (with_reducible refine AWo.cons ?_) | ((with_reducible refine Step.id ?_); ((with_reducible apply Step.lss); exact rfl; exact rfl; exact rfl)) | (with_reducible refine AWo.nil ?_) | ((with_reducible apply AW.seq)) | ((with_reducible apply Then.n)) | ((with_reducible apply AW.regL)) | ((with_reducible apply AW.exit)) | ((with_reducible apply Then.e)) | ((with_reducible apply AW.condF); exact rfl; (focus ((simp only [decide_eq_true_eq, decide_eq_false_iff_not, Bool.not_eq_true', Bool.not_eq_false', Bool.not_true, Bool.not_false]; first | assumption | omega))))))
        exact ⟨rfl, E, hMk, hMc, hMq, hMs, (by repeat (first | exact trivial | (refine And.intro rfl ?_)))⟩
    · rintro t' M ⟨E, hMk, hMc, hMq, hMs, hsl⟩
      refine InBlk.hit ?_
      refine Then.n ?_
      refine AW.weak (fr_all hsl) ?_
      clear hsl
      refine AW.rebase ?_
      have hMl := hMk.len
      have hB := hbook M hMk
      have hrq := fun T => Rd.old T (show Rd M ck 258 (.map (some q)) from ⟨_, hMc, ckc_q hlV⟩)
      have hr0 := fun T => Rd.old T (show Rd M ck 0 (.pointer (some ⟨bk, 0, none⟩)) from ⟨_, hMc, ckc_0⟩)
      have hr1 := fun T => Rd.old T (show Rd M ck 1 (.int .i64 (K.at_ : Nat)) from ⟨_, hMc, ckc_1⟩)
      have hr4 := fun T => Rd.old T (show Rd M ck 259 (.slice (some ⟨am, 0, none⟩) K.mv.length K.mv.length) from ⟨_, hMc, ckc_m hlV⟩)
      have hlC := h.lC
      have hrC : ∀ (T : AM) (p i : Nat), p < 16 → i < 16 → Rd (M ++ T) bk (0 + 257 + p * 16 + i) (.int .i64 (B.C.getD (p * 16 + i) 0)) := fun T p i hp hi => Rd.old T ⟨_, hB.cells, by rw [show 0 + 257 + p * 16 + i = 257 + (p * 16 + i) by omega]; exact bkc_C hB.lH (by omega)⟩
      have hmem : ∀ k v, (k, v) ∈ (mapB E).ents → ∃ (p i : Nat) (b : Bool), k = slotV ((p : Int), (i : Int)) ∧ v = .bool b ∧ p < 16 ∧ i < 16 ∧ (((p : Int), (i : Int)) ∈ K.seen ∨ ((p : Int), (i : Int)) ∈ kyL K.mv) := fun k v hkv => by
        obtain ⟨e, he, heq⟩ := List.mem_map.1 hkv
        simp only [Prod.mk.injEq] at heq
        obtain ⟨rfl, rfl⟩ := heq
        have hm := (hMs e.1).1 (List.mem_map.2 ⟨e, he, rfl⟩)
        obtain ⟨⟨a, b⟩, c⟩ := e
        have hr : 0 ≤ a ∧ a < 16 ∧ 0 ≤ b ∧ b < 16 := by
          rcases hm with hm | hm
          · have := hin _ hm
            simpa [inB] using this
          · unfold kyL at hm
            obtain ⟨t, ht, hm⟩ := List.mem_flatMap.1 hm
            have := List.all_eq_true.1 hok t ht
            simp only [okT, decide_eq_true_eq] at this
            simp only [List.mem_cons, List.not_mem_nil, or_false, Prod.mk.injEq] at hm
            omega
        obtain ⟨p, rfl⟩ := Int.eq_ofNat_of_zero_le hr.1
        obtain ⟨i, rfl⟩ := Int.eq_ofNat_of_zero_le hr.2.2.1
        exact ⟨p, i, c, rfl, rfl, by omega, by omega, hm⟩
      (repeat (((fail_if_success (with_reducible refine AW.atR (id := 12) ?_)); ((with_reducible apply AW.seq)))))
      apply AW.rangeMapL (n := 4) (hT := un136) (M1 := M) (q := q) (bl := mapB E) (l := [(0, .pointer (some ⟨ck, 0, none⟩))]) (Ok := fun k _ => ∃ p i : Nat, k = slotV ((p : Int), (i : Int)) ∧ B.C.getD (p * 16 + i) 0 ≤ K.at_) (hq := hMq) (hk := rfl)
      case hs => rfl
      case hit => rfl
      case hsN => rfl
      case hc => rfl
      case hsE => rfl
      case hne => exact ⟨rfl, rfl, rfl⟩
      case hcN => rfl
      case hl =>
        intro x hx
        simp only [List.mem_singleton] at hx
        subst hx
        exact ⟨by simp, by simp, by simp, by simp⟩
      case hg =>
        intro e he
        obtain ⟨p, i, b, h1, _⟩ := hmem e.1 e.2 he
        rw [h1]
        exact slot_g1 _
      case hpre =>
        simp only [List.take_succ_cons, List.take_zero]
        (repeat (first | (with_reducible refine AWo.cons ?_) | ((with_reducible refine Step.id ?_); first | ((with_reducible apply Step.move); exact rfl; exact rfl) | ((with_reducible apply Step.load); exact rfl; (focus (decide +kernel)); exact rfl; (focus (exact hrq _))) | ((with_reducible apply Step.field (k := 258)); exact rfl; (focus (decide +kernel)); exact rfl) | ((with_reducible apply Step.nilp); exact rfl; exact rfl)) | (with_reducible refine AWo.nil ?_)))
        exact ⟨rfl, List.append_nil _, (by repeat (first | exact trivial | (refine And.intro rfl ?_)))⟩
      case hround =>
        intro k v N hkv
        obtain ⟨p, i, b, rfl, rfl, hp, hi, hm⟩ := hmem k v hkv
        obtain ⟨Y, hY⟩ : ∃ Y : AM, Y = M ++ none :: N := ⟨_, rfl⟩
        have hYl : M.length ≤ Y.length := by rw [hY, List.length_append]; omega
        have hy0 := fun T : AM => show Rd (Y ++ T) ck 0 _ by rw [hY, List.append_assoc]; exact hr0 _
        have hy1 := fun T : AM => show Rd (Y ++ T) ck 1 _ by rw [hY, List.append_assoc]; exact hr1 _
        have hyC := fun T : AM => show Rd (Y ++ T) bk _ _ by rw [hY, List.append_assoc]; exact hrC _ p i hp hi
        rw [← hY]
        unfold slotV
        dsimp only
        by_cases c1 : (K.at_ : Int) < B.C.getD (p * 16 + i) 0
        · (repeat (first | (with_reducible refine AWo.cons ?_) | ((with_reducible refine Step.id ?_); first | ((with_reducible apply Step.move); exact rfl; exact rfl) | ((with_reducible apply Step.assign); exact rfl; exact rfl) | ((with_reducible apply Step.load); exact rfl; (focus (decide +kernel)); exact rfl; (focus (first | exact hy0 _ | exact hy1 _ | exact hyC _ | exact Rd.new rfl rfl))) | ((with_reducible apply Step.field0); exact rfl; (focus (decide +kernel)); exact rfl) | ((with_reducible apply Step.field (k := 1)); exact rfl; (focus (decide +kernel)); exact rfl) | ((with_reducible apply Step.field (k := 257)); exact rfl; (focus (decide +kernel)); exact rfl) | ((with_reducible apply Step.ixA (s := 16) (n := 16)); exact rfl; exact rfl; exact ar130; exact rfl; (focus (omega))) | ((with_reducible apply Step.ixC (n := 16)); exact rfl; exact rfl; exact ar128; exact rfl; (focus (omega))) | ((with_reducible apply Step.gtr); exact rfl; exact rfl; exact rfl) | ((with_reducible apply Step.nilp); exact rfl; exact rfl) | ((with_reducible apply Step.extract); exact rfl; exact rfl; exact rfl) | ((with_reducible apply Step.alloc 0); exact rfl; exact ze155; exact rfl; (focus (first | (simp only [List.nil_append, List.cons_append, List.set_cons_zero, List.set_cons_succ, iv_set, bv_set, iv_rep, bv_rep]; done) | (simp only [List.nil_append, List.cons_append, List.set_cons_zero, List.set_cons_succ, iv_set, bv_set, iv_rep, bv_rep]; rfl) | rfl))) | ((with_reducible apply Step.storeA (k := 0) (n := 2)); exact rfl; exact rfl; exact rfl; exact rfl; (focus (decide +kernel)); exact rfl; (focus (kernel_rfl)); exact rfl; (focus (first | (simp only [List.nil_append, List.cons_append, List.set_cons_zero, List.set_cons_succ, iv_set, bv_set, iv_rep, bv_rep]; done) | (simp only [List.nil_append, List.cons_append, List.set_cons_zero, List.set_cons_succ, iv_set, bv_set, iv_rep, bv_rep]; rfl) | rfl)))) | (with_reducible refine AWo.nil ?_) | ((with_reducible apply AW.seq)) | ((with_reducible apply Then.n)) | ((with_reducible apply AW.regL)) | ((with_reducible apply AW.drawL fit); (focus (decide +kernel))) | ((with_reducible apply AW.condT); exact rfl; (focus ((simp only [decide_eq_true_eq, decide_eq_false_iff_not, Bool.not_eq_true', Bool.not_eq_false', Bool.not_true, Bool.not_false]; first | assumption | omega))))))
          refine AW.ret ?_
          simp only [RoundQ]
          repeat (refine Then.r ?_)
          have hst : stale K B = true := by
            unfold stale
            rw [List.any_eq_true]
            exact ⟨((p : Int), (i : Int)), List.mem_append.2 hm, by simpa [cAt] using c1⟩
          simp only [hst, if_true]
          have hkM : ∀ T, Keep (fun j => j = ck ∨ j = q) m (Y ++ T) := fun T => by rw [hY, List.append_assoc]; exact hMk.trans (Keep.app (fun _ => False) _ _) (fun _ _ e => e.elim)
          exact ⟨_, rfl, pv, rfl, hbook _ (hkM _), hdone _ (hkM _).len (by rw [hY, List.append_assoc]; exact get_old _ hMc), (hkM _).mono (fun j e => e.elim .inl fun e => .inr (.inl e)), fun _ _ hn => hn, fun _ => rfl⟩
        · (repeat (first | (with_reducible refine AWo.cons ?_) | ((with_reducible refine Step.id ?_); first | ((with_reducible apply Step.move); exact rfl; exact rfl) | ((with_reducible apply Step.load); exact rfl; (focus (decide +kernel)); exact rfl; (focus (first | exact hy0 _ | exact hy1 _ | exact hyC _ | exact Rd.new rfl rfl))) | ((with_reducible apply Step.field0); exact rfl; (focus (decide +kernel)); exact rfl) | ((with_reducible apply Step.field (k := 1)); exact rfl; (focus (decide +kernel)); exact rfl) | ((with_reducible apply Step.field (k := 257)); exact rfl; (focus (decide +kernel)); exact rfl) | ((with_reducible apply Step.ixA (s := 16) (n := 16)); exact rfl; exact rfl; exact ar130; exact rfl; (focus (omega))) | ((with_reducible apply Step.ixC (n := 16)); exact rfl; exact rfl; exact ar128; exact rfl; (focus (omega))) | ((with_reducible apply Step.gtr); exact rfl; exact rfl; exact rfl) | ((with_reducible apply Step.nilp); exact rfl; exact rfl) | ((with_reducible apply Step.extract); exact rfl; exact rfl; exact rfl) | ((with_reducible apply Step.alloc 0); exact rfl; exact ze155; exact rfl; (focus (first | (simp only [List.nil_append, List.cons_append, List.set_cons_zero, List.set_cons_succ, iv_set, bv_set, iv_rep, bv_rep]; done) | (simp only [List.nil_append, List.cons_append, List.set_cons_zero, List.set_cons_succ, iv_set, bv_set, iv_rep, bv_rep]; rfl) | rfl))) | ((with_reducible apply Step.storeA (k := 0) (n := 2)); exact rfl; exact rfl; exact rfl; exact rfl; (focus (decide +kernel)); exact rfl; (focus (kernel_rfl)); exact rfl; (focus (first | (simp only [List.nil_append, List.cons_append, List.set_cons_zero, List.set_cons_succ, iv_set, bv_set, iv_rep, bv_rep]; done) | (simp only [List.nil_append, List.cons_append, List.set_cons_zero, List.set_cons_succ, iv_set, bv_set, iv_rep, bv_rep]; rfl) | rfl)))) | (with_reducible refine AWo.nil ?_) | ((with_reducible apply AW.seq)) | ((with_reducible apply Then.n)) | ((with_reducible apply AW.drawL fit); (focus (decide +kernel))) | ((with_reducible apply AW.skip)) | ((with_reducible apply AW.condF); exact rfl; (focus ((simp only [decide_eq_true_eq, decide_eq_false_iff_not, Bool.not_eq_true', Bool.not_eq_false', Bool.not_true, Bool.not_false]; first | assumption | omega))))))
          exact ⟨⟨p, i, rfl, by omega⟩, ⟨_, by rw [hY, List.append_assoc]; rfl⟩, (by repeat (first | exact trivial | (refine And.intro rfl ?_)))⟩
      case hend =>
        intro hall N
        obtain ⟨Y, hY⟩ : ∃ Y : AM, Y = M ++ none :: N := ⟨_, rfl⟩
        have hkY : Keep (fun j => j = ck ∨ j = q) m Y := by rw [hY]; exact hMk.trans (Keep.app (fun _ => False) _ _) (fun _ _ e => e.elim)
        have hYc : Y[ck]? = some (some { cells := ckc bk K.at_ K.V q (.slice (some ⟨am, 0, none⟩) K.mv.length K.mv.length) true }) := by rw [hY]; exact get_old _ hMc
        have hy0 := fun T => Rd.old T (show Rd Y ck 0 (.pointer (some ⟨bk, 0, none⟩)) from ⟨_, hYc, ckc_0⟩)
        have hy4 := fun T => Rd.old T (show Rd Y ck 259 (.slice (some ⟨am, 0, none⟩) K.mv.length K.mv.length) from ⟨_, hYc, ckc_m hlV⟩)
        have hns : stale K B = false := by
          unfold stale
          rw [List.any_eq_false]
          intro x hx
          have hx' := (hMs x).2 (List.mem_append.1 hx)
          obtain ⟨e, he, rfl⟩ := List.mem_map.1 hx'
          obtain ⟨p, i, h1, h2⟩ := hall _ _ (List.mem_map.2 ⟨e, he, rfl⟩)
          have : e.1 = ((p : Int), (i : Int)) := by
            obtain ⟨⟨a, b⟩, c⟩ := e
            simp [slotV] at h1
            simp [h1]
          rw [this]
          have e2 : cAt B ((p : Int), (i : Int)) = B.C.getD (p * 16 + i) 0 := rfl
          intro hh
          have h3 := of_decide_eq_true hh
          rw [e2] at h3
          omega
        simp only [hns, Bool.false_eq_true, if_false]
        have hBY := hbook Y hkY
        have hap1 : am ≠ bk ∧ NotOf pv am := s5 am fun hn => hn _ _ rfl
        have hYa : Y[am]? = some (some { cells := tcs K.mv, kind := kd, size := sz }) := by
          rw [hkY.get am hal (by rintro (e | e); exact hap.1 _ _ (by rw [e]); exact hap.2 _ _ (by rw [e]))]; exact hma
        have hP := Post_ok hBY (l := K.mv) (v := .slice (some ⟨am, 0, none⟩) K.mv.length K.mv.length) (fun M' hF => ⟨am, 0, Sl.mk (Nat.le_refl _), by have := hF.1; have := hkY.len; omega, fun k hk => ⟨_, by rw [hF.2 am (by have := hkY.len; omega) hap1.1 hap1.2]; exact hYa, fun j v hj => by rw [Nat.zero_add]; exact tcs_get _ k hk j v hj⟩⟩) hbd hpl (by omega)
        refine Then.n ?_
        rw [← hY]
        refine AW.rebase ?_
        (repeat (first | (with_reducible refine AWo.cons ?_) | ((with_reducible refine Step.id ?_); first | ((with_reducible apply Step.move); exact rfl; exact rfl) | ((with_reducible apply Step.load); exact rfl; (focus (decide +kernel)); exact rfl; (focus (first | exact hy0 _ | exact hy4 _))) | ((with_reducible apply Step.field0); exact rfl; (focus (decide +kernel)); exact rfl) | ((with_reducible apply Step.field (k := 259)); exact rfl; (focus (decide +kernel)); exact rfl) | ((with_reducible apply Step.nilp); exact rfl; exact rfl)) | ((with_reducible apply AW.seq)) | ((with_reducible apply AW.drawL fit); (focus (decide +kernel)))))
        ((with_reducible apply Step.callF fit); exact rfl; exact Try.func28; exact rfl; exact rfl; (focus (rw [List.append_nil]; exact hP)))
        rintro r3 M3 ⟨u, rfl, hB3, hF3, hn3, hz3⟩
        rw [← List.append_nil M3]
        (repeat (first | (with_reducible refine AWo.cons ?_) | ((with_reducible refine Step.id ?_); first | ((with_reducible apply Step.assign); exact rfl; exact rfl) | ((with_reducible apply Step.extract); exact rfl; exact rfl; exact rfl)) | (with_reducible refine AWo.nil ?_) | ((with_reducible apply Then.n))))
        (refine AW.ret ?_; (repeat (first | refine Then.r ?_ | refine InBlk.r ?_)))
        have hYl := hkY.len
        have hk3 : Keep (fun j => j = ck ∨ j = q ∨ bkD bk pv j) m M3 := (hkY.mono fun j e => e.elim .inl fun e => .inr (.inl e)).trans hF3.keep fun j _ e => .inr (.inr e)
        rw [List.append_nil]
        exact ⟨_, rfl, u, rfl, hB3, hdone M3 hk3.len (by rw [hF3.2 ck (by omega) s1 s2]; exact hYc), hk3, fun j hj hn => hn3 j (by omega) hn, hz3⟩
end Go.Proofs.Ytabdnepfcohncaa.Abs
namespace Go.Proofs.Ytabdnepfcohncaa.Abs
set_option linter.unusedSimpArgs false
set_option linter.unusedVariables false
open Go.RowKit
open Go.Proofs.Ytabdnepfcohncaa.Sim
open Go.Proofs
theorem tcs_ext {l : List Tr} {c : List Value} (hl : c.length = l.length * 4) (h : ∀ k j v, k < l.length → (l.getD k default).c[j]? = some v → c[k * 4 + j]? = some v) : c = tcs l := by
  apply List.ext_getElem?
  intro p
  by_cases hp : p < l.length * 4
  · obtain ⟨v, hv⟩ : ∃ v, (l.getD (p / 4) default).c[p % 4]? = some v := ⟨_, List.getElem?_eq_getElem (show p % 4 < 4 by omega)⟩
    have h1 := h (p / 4) (p % 4) v (by omega) hv
    have h2 := tcs_get l (p / 4) (by omega) (p % 4) v hv
    rw [show p / 4 * 4 + p % 4 = p by omega] at h1 h2
    rw [h1, h2]
  · rw [List.getElem?_eq_none (by omega), List.getElem?_eq_none (by rw [tcs_len]; omega)]
theorem getD_setT (l : List Tr) (i k : Nat) (x : Tr) (hk : k < l.length) : (l.set i x).getD k default = if i = k then x else l.getD k default := by
  simp only [List.getD_eq_getElem?_getD]
  by_cases h : i = k
  · subst h; rw [List.getElem?_set_self hk, if_pos rfl]; rfl
  · rw [List.getElem?_set_ne h, if_neg h]
theorem tcs_set (l : List Tr) (i : Nat) (x : Tr) (hi : i < l.length) : splice (tcs l) (i * 4) x.c = tcs (l.set i x) := by
  have hc : x.c.length = 4 := rfl
  have hlen : (tcs l).length = l.length * 4 := tcs_len l
  refine tcs_ext ?_ fun k j v hk hj => ?_
  · unfold splice
    simp only [List.length_append, List.length_take, List.length_drop, hlen, hc, List.length_set]
    omega
  · rw [List.length_set] at hk
    rw [getD_setT l i k x hk] at hj
    have hj4 : j < 4 := by
      have := (List.getElem?_eq_some_iff.1 hj).1
      split at this <;> exact this
    unfold splice
    by_cases h : i = k
    · subst h
      rw [if_pos rfl] at hj
      rw [List.append_assoc, List.getElem?_append_right (by rw [List.length_take, hlen]; omega), List.length_take, hlen, Nat.min_eq_left (by omega), show i * 4 + j - i * 4 = j by omega, List.getElem?_append_left (by rw [hc]; omega)]
      exact hj
    · rw [if_neg h] at hj
      have hg := tcs_get l k hk j v hj
      rcases Nat.lt_or_gt_of_ne h with hlt | hgt
      · rw [List.getElem?_append_right (by simp only [List.length_append, List.length_take, hlen, hc]; omega)]
        simp only [List.length_append, List.length_take, hlen, hc]
        rw [List.getElem?_drop, Nat.min_eq_left (by omega), show i * 4 + 4 + (k * 4 + j - (i * 4 + 4)) = k * 4 + j by omega]
        exact hg
      · rw [List.append_assoc, List.getElem?_append_left (by rw [List.length_take, hlen]; omega), List.getElem?_take, if_pos (by omega)]
        exact hg
theorem tcs_set1 (l : List Tr) (i j : Nat) (x y : Tr) (v : Value) (hi : i < l.length) (hx : l.getD i default = x) (hj : j < 4) (hy : x.c.set j v = y.c) : (tcs l).set (i * 4 + j) v = tcs (l.set i y) := by
  have hlen : (tcs l).length = l.length * 4 := tcs_len l
  refine tcs_ext (by rw [List.length_set, hlen, List.length_set]) fun k q w hk hq => ?_
  rw [List.length_set] at hk
  rw [getD_setT l i k y hk] at hq
  have hq4 : q < 4 := by
    have := (List.getElem?_eq_some_iff.1 hq).1
    split at this <;> exact this
  by_cases h : i = k
  · subst h
    rw [if_pos rfl, ← hy] at hq
    by_cases e : j = q
    · subst e
      rw [List.getElem?_set_self (show j < 4 from hj)] at hq
      rw [List.getElem?_set_self (by rw [hlen]; omega)]
      exact hq
    · rw [List.getElem?_set_ne e] at hq
      rw [List.getElem?_set_ne (by omega)]
      exact tcs_get l i hk q w (by rw [hx]; exact hq)
  · rw [if_neg h] at hq
    rw [List.getElem?_set_ne (by omega)]
    exact tcs_get l k hk q w hq
/-- The first k and the last k are exchanged. -/
def RevK (l L : List Tr) (k : Nat) : Prop := L.length = l.length ∧ ∀ p, p < l.length → L.getD p default = if p < k ∨ l.length ≤ p + k then l.getD (l.length - 1 - p) default else l.getD p default
theorem RevK.zero (l : List Tr) : RevK l l 0 := ⟨rfl, fun p hp => by rw [if_neg (by omega)]⟩
theorem RevK.step {l L : List Tr} {k : Nat} (h : RevK l L k) (hk : k < l.length - 1 - k) : RevK l ((L.set k (L.getD (l.length - 1 - k) default)).set (l.length - 1 - k) (L.getD k default)) (k + 1) := by
  obtain ⟨h1, h2⟩ := h
  refine ⟨by simp [h1], fun p hp => ?_⟩
  rw [getD_setT _ _ _ _ (by simp [h1, hp])]
  by_cases e1 : l.length - 1 - k = p
  · rw [if_pos e1, if_pos (by omega), h2 k (by omega), if_neg (by omega)]
    congr 1
    omega
  · rw [if_neg e1, getD_setT _ _ _ _ (by omega)]
    by_cases e2 : k = p
    · rw [if_pos e2, if_pos (by omega), h2 _ (by omega), if_neg (by omega)]
      congr 1
      omega
    · rw [if_neg e2, h2 p hp]
      by_cases e3 : p < k ∨ l.length ≤ p + k
      · rw [if_pos e3, if_pos (by omega)]
      · rw [if_neg e3, if_neg (by omega)]
theorem RevK.done {l L : List Tr} {k : Nat} (h : RevK l L k) (hk : l.length ≤ 2 * k + 1) : L = l.reverse := by
  obtain ⟨h1, h2⟩ := h
  apply List.ext_getElem?
  intro p
  by_cases hp : p < l.length
  · have h3 := h2 p hp
    have h4 : L.getD p default = l.getD (l.length - 1 - p) default := by
      rw [h3]
      by_cases e : p < k ∨ l.length ≤ p + k
      · rw [if_pos e]
      · rw [if_neg e]; congr 1; omega
    rw [List.getD_eq_getElem?_getD, List.getElem?_eq_getElem (by omega), List.getD_eq_getElem?_getD, List.getElem?_eq_getElem (by omega)] at h4
    rw [List.getElem?_eq_getElem (by omega), List.getElem?_reverse hp, List.getElem?_eq_getElem (by omega)]
    exact congrArg some h4
  · rw [List.getElem?_eq_none (by omega), List.getElem?_eq_none (by simpa using Nat.le_of_not_lt hp)]
theorem sz63 : szB Try.prog 63 = some 4 := by kernel_rfl
theorem Tr.one (x : Tr) : x.c.all (·.oneCell') = true := by simp [Tr.c, Value.oneCell']
set_option maxHeartbeats 4000000 in
set_option maxRecDepth 100000 in
theorem RevS_ok {m : AM} {a sz : Nat} {kd : Kind} {l : List Tr} (h : m[a]? = some (some { cells := tcs l, kind := kd, size := sz })) (hs : kd.solid = true) (hn : l.length ≤ 1000000) : ACall Try.prog 101 #[.slice (some ⟨a, 0, none⟩) l.length l.length] m (fun _ M => M = List.set m a (some { cells := tcs l.reverse, kind := kd, size := sz })) := by
  have hal := (List.getElem?_eq_some_iff.1 h).1
  have hset : ∀ (x y : Option Blk), List.set (List.set m a x) a y = List.set m a y := fun x y => List.set_set ..
  have hm : List.set m a (some { cells := tcs l, kind := kd, size := sz }) = m := by
    apply List.ext_getElem?
    intro j
    by_cases e : a = j
    · subst e; rw [List.getElem?_set_self hal, h]
    · rw [List.getElem?_set_ne e]
  refine ACall.start Try.func101 rfl rfl ?_
  (repeat (first | (with_reducible refine AWo.cons ?_) | ((with_reducible refine Step.id ?_); first | ((with_reducible apply Step.move); exact rfl; exact rfl) | ((with_reducible apply Step.assign); exact rfl; exact rfl) | ((with_reducible apply Step.sub); exact rfl; exact rfl; (focus (omega)); exact rfl) | ((with_reducible apply Step.len); exact rfl; (focus (exact Sl.mk (by omega))); (focus (decide +kernel)); exact rfl)) | (with_reducible refine AWo.nil ?_) | ((with_reducible apply AW.seq)) | ((with_reducible apply Then.n)) | ((with_reducible apply AW.regL)) | ((with_reducible apply AW.block))))
  refine AW.loopW (fun q t M => ∃ (k : Nat) (z : Int) (L : List Tr), q = l.length + 1 - k ∧ 2 * k ≤ l.length + 1 ∧ z = (l.length : Int) - 1 - k ∧ RevK l L k ∧ M = List.set m a (some { cells := tcs L, kind := kd, size := sz }) ∧
    t = fr [(0, .slice (some ⟨a, 0, none⟩) l.length l.length), (2, .int .i64 (k : Nat)), (3, .int .i64 z)]) ⟨_, _, (by repeat (first | exact trivial | (refine And.intro rfl ?_))), 0, _, l, rfl, by omega, by omega, RevK.zero l, by rw [hm, List.append_nil], rfl⟩ ?_
  rintro q t M ⟨k, z, L, rfl, hk, hz, hL, rfl, rfl⟩
  have hLl := hL.1
  by_cases c : (k : Int) < z
  · obtain rfl : z = ((l.length - 1 - k : Nat) : Int) := by omega
    have hst := hL.step (by omega)
    have hM0 : (List.set m a (some { cells := tcs L, kind := kd, size := sz }))[a]? = some (some { cells := tcs L, kind := kd, size := sz }) := set_hit h
    have hrd : ∀ T p, p < l.length → RdL (List.set m a (some { cells := tcs L, kind := kd, size := sz }) ++ T) a (p * 4) (L.getD p default).c := fun T p hp => RdL.old T ⟨_, hM0, fun j v hj => tcs_get L p (by omega) j v hj⟩
    have r1 := fun T => hrd T k (by omega)
    have r2 := fun T => hrd T (l.length - 1 - k) (by omega)
    have ey : tcs L = tcs L := rfl
    generalize hx : L.getD k default = x at *
    generalize hy : L.getD (l.length - 1 - k) default = y at *
    have e1 := tcs_set L k y (by omega)
    have e2 := tcs_set (L.set k y) (l.length - 1 - k) x (by rw [List.length_set]; omega)
    obtain ⟨xi, xf, xt, xn⟩ := x
    obtain ⟨yi, yf, yt, yn⟩ := y
    simp only [Tr.c] at r1 r2 e1 e2
    refine AW.rebase ?_
    (repeat (first | (with_reducible refine AWo.cons ?_) | ((with_reducible refine Step.id ?_); first | ((with_reducible apply Step.move); exact rfl; exact rfl) | ((with_reducible apply Step.loadL (n := 4)); exact rfl; (focus (decide +kernel)); (focus (decide +kernel)); exact rfl; (focus (first | exact r1 _ | exact r2 _)); exact rfl; exact rfl) | ((with_reducible apply Step.ixz (s := 4)); exact rfl; (focus (exact Sl.mk (by omega))); exact rfl; (focus (decide +kernel)); exact rfl; (focus (omega))) | ((with_reducible apply Step.lss); exact rfl; exact rfl; exact rfl)) | (with_reducible refine AWo.nil ?_) | ((with_reducible apply AW.seq)) | ((with_reducible apply Then.n)) | ((with_reducible apply AW.regL)) | ((with_reducible apply AW.block)) | ((with_reducible apply AW.drawL fit); (focus (decide +kernel))) | ((with_reducible apply AW.skip)) | ((with_reducible apply AW.condT); exact rfl; (focus ((simp only [decide_eq_true_eq, decide_eq_false_iff_not, Bool.not_eq_true', Bool.not_eq_false', Bool.not_true, Bool.not_false]; first | assumption | omega))))))
    ((with_reducible apply Step.storeL); exact rfl; exact rfl; exact (get_old _ hM0); exact hs; exact sz63; exact rfl; exact rfl; (focus (rw [tcs_len]; omega)))
    rw [e1]
    (repeat (first | (with_reducible refine AWo.cons ?_) | ((with_reducible refine Step.id ?_); ((with_reducible apply Step.ixz (s := 4)); exact rfl; (focus (exact Sl.mk (by omega))); exact rfl; (focus (decide +kernel)); exact rfl; (focus (omega))))))
    ((with_reducible apply Step.storeL); exact rfl; exact rfl; exact (set_hit (get_old _ hM0)); exact hs; exact sz63; exact rfl; exact rfl; (focus (rw [tcs_len, List.length_set]; omega)))
    rw [e2]
    (repeat (first | (with_reducible refine AWo.cons ?_) | ((with_reducible refine Step.id ?_); first | ((with_reducible apply Step.move); exact rfl; exact rfl) | ((with_reducible apply Step.assign); exact rfl; exact rfl) | ((with_reducible apply Step.add); exact rfl; exact rfl; (focus (omega)); exact rfl) | ((with_reducible apply Step.sub); exact rfl; exact rfl; (focus (omega)); exact rfl)) | (with_reducible refine AWo.nil ?_) | ((with_reducible apply Then.n)) | ((with_reducible apply AW.regL)) | ((with_reducible apply InBlk.n))))
    refine ⟨_, [(0, .slice (some ⟨a, 0, none⟩) l.length l.length), (2, .int .i64 (k + 1 : Nat)), (3, .int .i64 (((l.length - 1 - k : Nat) : Int) - 1))], by omega, (by repeat (first | exact trivial | (refine And.intro rfl ?_))), k + 1, _, _, rfl, by omega, by omega, hst, ?_, rfl⟩
    rw [List.append_nil, hset, hset]
  · obtain rfl := hL.done (by omega)
    refine AW.rebase ?_
    (repeat (first | (with_reducible refine AWo.cons ?_) | ((with_reducible refine Step.id ?_); first | ((with_reducible apply Step.move); exact rfl; exact rfl) | ((with_reducible apply Step.lss); exact rfl; exact rfl; exact rfl)) | (with_reducible refine AWo.nil ?_) | ((with_reducible apply AW.seq)) | ((with_reducible apply Then.n)) | ((with_reducible apply AW.regL)) | ((with_reducible apply AW.exit)) | ((with_reducible apply InBlk.hit)) | ((with_reducible apply Then.e)) | ((with_reducible apply AW.condF); exact rfl; (focus ((simp only [decide_eq_true_eq, decide_eq_false_iff_not, Bool.not_eq_true', Bool.not_eq_false', Bool.not_true, Bool.not_false]; first | assumption | omega))))))
    exact ⟨_, rfl, by rw [List.append_nil]⟩
/-- The opposite of a post. -/
def revL (l : List Tr) : List Tr := l.reverse.map fun t => ⟨t.i, t.t, t.f, t.n⟩
/-- Of a row the first k with their places exchanged. -/
def swK (l : List Tr) (k : Nat) : List Tr := (l.take k).map (fun t => ⟨t.i, t.t, t.f, t.n⟩) ++ l.drop k
theorem swK_len (l : List Tr) (k : Nat) : (swK l k).length = l.length := by
  unfold swK
  rw [List.length_append, List.length_map, List.length_take, List.length_drop]
  omega
theorem swK_step (l : List Tr) (k : Nat) (hk : k < l.length) : (swK l k).getD k default = l.getD k default ∧ (swK l k).set k ⟨(l.getD k default).i, (l.getD k default).t, (l.getD k default).f, (l.getD k default).n⟩ = swK l (k + 1) := by
  have h1 : (l.take k).length = k := by rw [List.length_take]; omega
  unfold swK
  constructor
  · simp only [List.getD_eq_getElem?_getD]
    rw [List.getElem?_append_right (by rw [List.length_map, h1]; omega), List.length_map, h1, Nat.sub_self, List.getElem?_drop, Nat.add_zero]
  · rw [List.set_append_right _ _ (by rw [List.length_map, h1]; omega), List.length_map, h1, Nat.sub_self, List.drop_eq_getElem_cons hk, List.set_cons_zero, List.take_succ_eq_append_getElem hk]
    have e : l.getD k default = l[k] := by rw [List.getD_eq_getElem?_getD, List.getElem?_eq_getElem hk]; rfl
    rw [e, List.map_append, List.append_assoc]
    rfl
set_option maxHeartbeats 8000000 in
set_option maxRecDepth 100000 in
theorem Reverse_no {m : AM} {b0 bk : Nat} {B : Bk} {pv : Value} {n : Int} (h : BookAt m b0 bk B pv) (hn : ¬ (1 ≤ n ∧ n ≤ B.P.length)) : ACall Try.prog 42 #[.pointer (some ⟨bk, 0, none⟩), .int .i64 n] m (Ret (.tuple #[.int .i64 0, .int .i64 7]) m) := by
  have hf := fun T => Find_no (h.old T) hn
  refine ACall.start Try.func42 rfl rfl ?_
  (repeat (first | (with_reducible refine AWo.cons ?_) | ((with_reducible refine Step.id ?_); first | ((with_reducible apply Step.move); exact rfl; exact rfl) | ((with_reducible apply Step.assign); exact rfl; exact rfl) | ((with_reducible apply Step.neq); exact rfl; exact rfl; exact rfl) | ((with_reducible apply Step.extract); exact rfl; exact rfl; exact rfl) | ((with_reducible apply Step.callR fit); exact rfl; exact Try.func40; exact rfl; exact rfl; exact (hf _))) | (with_reducible refine AWo.nil ?_) | ((with_reducible apply AW.seq)) | ((with_reducible apply Then.n)) | ((with_reducible apply AW.regL)) | ((with_reducible apply AW.condT); exact rfl; (focus (rfl)))))
  (refine AW.retD (l := [(4, _), (5, _)]) (by repeat (first | exact trivial | (refine And.intro ⟨rfl, by (exact .int _ _)⟩ ?_))) ?_; (repeat (first | refine Then.r ?_ | refine InBlk.r ?_)))
  exact ⟨_, rfl, rfl, rfl⟩
set_option maxHeartbeats 8000000 in
set_option maxRecDepth 100000 in
theorem Reverse_ok {m : AM} {b0 bk : Nat} {B : Bk} {pv : Value} {k : Nat} (h : BookAt m b0 bk B pv) (hk : k < B.P.length) (hok : ∀ l ∈ B.P, postB l = true) (hbd : Bd B.H 1000000000) (hpl : B.P.length ≤ 1000000) : ACall Try.prog 42 #[.pointer (some ⟨bk, 0, none⟩), .int .i64 ((k : Nat) + 1)] m
    (fun r M => ∃ u, r = .tuple #[.int .i64 (postF B (revL (B.P.getD k []))).2.1, .int .i64 (postF B (revL (B.P.getD k []))).2.2] ∧ BookAt M b0 bk (postF B (revL (B.P.getD k []))).1 u ∧ Fr m M bk pv ∧ (∀ j, j < m.length → NotOf pv j → NotOf u j) ∧ ((postF B (revL (B.P.getD k []))).1.P.length = 0 → u = pv)) := by
  have hf := fun T => Find_ok (h.old T) hk hok hpl
  have hmem : B.P.getD k [] ∈ B.P := by rw [List.getD_eq_getElem?_getD, List.getElem?_eq_getElem hk]; exact List.getElem_mem hk
  obtain ⟨p1, p2, p3⟩ := postB_all (hok _ hmem)
  have hbl := h.lt
  generalize B.P.getD k [] = l at *
  refine ACall.start Try.func42 rfl rfl ?_
  (repeat (first | (with_reducible refine AWo.cons ?_) | ((with_reducible refine Step.id ?_); first | ((with_reducible apply Step.move); exact rfl; exact rfl) | ((with_reducible apply Step.assign); exact rfl; exact rfl)) | (with_reducible refine AWo.nil ?_) | ((with_reducible apply AW.seq)) | ((with_reducible apply Then.n)) | ((with_reducible apply AW.regL))))
  ((with_reducible apply Step.callX fit); exact rfl; exact Try.func40; exact rfl; exact rfl; exact (hf _))
  rintro r1 M1 ⟨N1, hN1⟩ ⟨u, rfl, hu⟩
  obtain ⟨a, kd, sz, w1, w2, rfl, w4, w5⟩ := hu.pos2 (by omega)
  have hkd : kd.solid = true := by
    rcases hu with ⟨e, _⟩ | ⟨a', kd', sz', _, e2, e3, _, e5⟩
    · cases e
    · simp only [Value.slice.injEq, Option.some.injEq, Addr.mk.injEq] at e2
      obtain ⟨⟨rfl, _⟩, _⟩ := e2
      rw [w4] at e3
      injection e3 with e3; injection e3 with e3
      simp only [Blk.mk.injEq] at e3
      obtain ⟨_, rfl, _⟩ := e3
      rcases e5 with rfl | ⟨rfl, _⟩ <;> rfl
  rw [List.append_nil] at hN1 w1
  have hrev := RevS_ok w4 hkd (by omega)
  (repeat (first | (with_reducible refine AWo.cons ?_) | ((with_reducible refine Step.id ?_); first | ((with_reducible apply Step.move); exact rfl; exact rfl) | ((with_reducible apply Step.assign); exact rfl; exact rfl) | ((with_reducible apply Step.neq); exact rfl; exact rfl; exact rfl) | ((with_reducible apply Step.extract); exact rfl; exact rfl; exact rfl)) | (with_reducible refine AWo.nil ?_) | ((with_reducible apply AW.seq)) | ((with_reducible apply Then.n)) | ((with_reducible apply AW.regL)) | ((with_reducible apply AW.skip)) | ((with_reducible apply AW.condF); exact rfl; (focus (rfl)))))
  ((with_reducible apply Step.callF fit); exact rfl; exact Try.func101; exact rfl; exact rfl; (focus (rw [List.append_nil]; exact hrev)))
  rintro r2 M2 rfl
  have hM2 : ∀ x : Option Blk, List.set M1 a x = m ++ N1.set (a - m.length) x := fun x => by rw [hN1, List.set_append_right _ _ w1]
  have hwa : ∀ x : Option Blk, (List.set M1 a x)[a]? = some x := fun x => List.getElem?_set_self w2
  have hset : ∀ (x y : Option Blk), List.set (List.set M1 a x) a y = List.set M1 a y := fun x y => List.set_set ..
  have hrl : l.reverse.length = l.length := List.length_reverse
  have hsw0 : swK l.reverse 0 = l.reverse := by simp [swK]
  have hswn : swK l.reverse l.length = revL l := by unfold swK revL; rw [← hrl, List.take_length, List.drop_length, List.append_nil]
  generalize l.reverse = rl at *
  rw [← List.append_nil (List.set M1 a _)]
  (repeat (first | (with_reducible refine AWo.cons ?_) | ((with_reducible refine Step.id ?_); first | ((with_reducible apply Step.move); exact rfl; exact rfl) | ((with_reducible apply Step.len); exact rfl; (focus (exact Sl.mk (by omega))); (focus (decide +kernel)); exact rfl)) | (with_reducible refine AWo.nil ?_) | ((with_reducible apply AW.seq)) | ((with_reducible apply Then.n)) | ((with_reducible apply AW.regL)) | ((with_reducible apply AW.block))))
  refine AW.loopW (fun q t M => ∃ (i : Nat), q = l.length - i ∧ i ≤ l.length ∧ M = List.set M1 a (some { cells := tcs (swK rl i), kind := kd, size := sz }) ∧
    t = fr [(0, .pointer (some ⟨bk, 0, none⟩)), (6, .slice (some ⟨a, 0, none⟩) l.length l.length), (21, .int .i64 (l.length : Nat)), (22, .int .i64 (i : Nat))]) ⟨_, _, (by repeat (first | exact trivial | (refine And.intro rfl ?_))), 0, rfl, Nat.zero_le _, by rw [hsw0, List.append_nil], rfl⟩ ?_
  rintro q t M ⟨i, rfl, hi, rfl, rfl⟩
  have hM0 := hwa (some { cells := tcs (swK rl i), kind := kd, size := sz })
  have hsl := swK_len rl i
  rcases Nat.lt_or_ge i l.length with hlt | hge
  · obtain ⟨g1, g2⟩ := swK_step rl i (by omega)
    have hrd : ∀ T, RdL (List.set M1 a (some { cells := tcs (swK rl i), kind := kd, size := sz }) ++ T) a (i * 4) (rl.getD i default).c := fun T => RdL.old T ⟨_, hM0, fun j v hj => tcs_get _ i (by omega) j v (by rw [g1]; exact hj)⟩
    generalize rl.getD i default = x at *
    obtain ⟨xi, xf, xt, xn⟩ := x
    have r1 : ∀ T, Rd (List.set M1 a (some { cells := tcs (swK rl i), kind := kd, size := sz }) ++ T) a (i * 4 + 1) (.int .i64 xf) := fun T => (hrd T).at_ 1 rfl
    have r2 : ∀ T, Rd (List.set M1 a (some { cells := tcs (swK rl i), kind := kd, size := sz }) ++ T) a (i * 4 + 2) (.int .i64 xt) := fun T => (hrd T).at_ 2 rfl
    have e1 := tcs_set1 (swK rl i) i 1 ⟨xi, xf, xt, xn⟩ ⟨xi, xt, xt, xn⟩ (.int .i64 xt) (by omega) g1 (by omega) rfl
    have e2 := tcs_set1 ((swK rl i).set i ⟨xi, xt, xt, xn⟩) i 2 ⟨xi, xt, xt, xn⟩ ⟨xi, xt, xf, xn⟩ (.int .i64 xf) (by rw [List.length_set]; omega) (by rw [getD_setT _ _ _ _ (by omega), if_pos rfl]) (by omega) rfl
    rw [List.set_set, g2] at e2
    refine AW.rebase ?_
    (repeat (first | (with_reducible refine AWo.cons ?_) | ((with_reducible refine Step.id ?_); first | ((with_reducible apply Step.move); exact rfl; exact rfl) | ((with_reducible apply Step.assign); exact rfl; exact rfl) | ((with_reducible apply Step.load); exact rfl; (focus (decide +kernel)); exact rfl; (focus (first | exact r1 _ | exact r2 _))) | ((with_reducible apply Step.ixz (s := 4)); exact rfl; (focus (exact Sl.mk (by omega))); exact rfl; (focus (decide +kernel)); exact rfl; (focus (omega))) | ((with_reducible apply Step.field (k := 1)); exact rfl; (focus (decide +kernel)); exact rfl) | ((with_reducible apply Step.field (k := 2)); exact rfl; (focus (decide +kernel)); exact rfl) | ((with_reducible apply Step.lss); exact rfl; exact rfl; exact rfl)) | (with_reducible refine AWo.nil ?_) | ((with_reducible apply AW.seq)) | ((with_reducible apply Then.n)) | ((with_reducible apply AW.regL)) | ((with_reducible apply AW.block)) | ((with_reducible apply AW.drawL fit); (focus (decide +kernel))) | ((with_reducible apply AW.skip)) | ((with_reducible apply AW.condT); exact rfl; (focus ((simp only [decide_eq_true_eq, decide_eq_false_iff_not, Bool.not_eq_true', Bool.not_eq_false', Bool.not_true, Bool.not_false]; first | assumption | omega))))))
    ((with_reducible apply Step.storeAt); exact rfl; exact rfl; exact (get_old _ hM0); (focus (kernel_rfl)); exact hkd; (focus (rw [tcs_len]; omega)); exact rfl; exact rfl)
    rw [e1]
    (repeat (first | (with_reducible refine AWo.cons ?_) | ((with_reducible refine Step.id ?_); first | ((with_reducible apply Step.ixz (s := 4)); exact rfl; (focus (exact Sl.mk (by omega))); exact rfl; (focus (decide +kernel)); exact rfl; (focus (omega))) | ((with_reducible apply Step.field (k := 2)); exact rfl; (focus (decide +kernel)); exact rfl))))
    ((with_reducible apply Step.storeAt); exact rfl; exact rfl; exact (set_hit (get_old _ hM0)); (focus (kernel_rfl)); exact hkd; (focus (rw [tcs_len, List.length_set]; omega)); exact rfl; exact rfl)
    rw [e2]
    (repeat (first | (with_reducible refine AWo.cons ?_) | ((with_reducible refine Step.id ?_); first | ((with_reducible apply Step.move); exact rfl; exact rfl) | ((with_reducible apply Step.add); exact rfl; exact rfl; (focus (omega)); exact rfl)) | (with_reducible refine AWo.nil ?_) | ((with_reducible apply Then.n)) | ((with_reducible apply AW.regL)) | ((with_reducible apply InBlk.n))))
    refine ⟨_, [(0, .pointer (some ⟨bk, 0, none⟩)), (6, .slice (some ⟨a, 0, none⟩) l.length l.length), (21, .int .i64 (l.length : Nat)), (22, .int .i64 (i + 1 : Nat))], by omega, (by repeat (first | exact trivial | (refine And.intro rfl ?_))), i + 1, rfl, by omega, ?_, rfl⟩
    rw [List.append_nil, hset, hset]
  · obtain rfl : i = l.length := by omega
    rw [hswn] at hM0 hsl ⊢
    rw [hM2] at hM0 ⊢
    have hB := h.old (N1.set (a - m.length) (some { cells := tcs (revL l), kind := kd, size := sz }))
    have hne : a ≠ bk := by omega
    have hnot : NotOf pv a := by
      obtain ⟨pc, q1, _⟩ := h.row
      exact q1.far w1
    have hP := Post_ok hB (l := revL l) (v := .slice (some ⟨a, 0, none⟩) l.length l.length) (fun M' hF => ⟨a, 0, by rw [hsl, hrl]; exact Sl.mk (Nat.le_refl _), by have := hF.1; have := (List.getElem?_eq_some_iff.1 hM0).1; omega, fun k hk => ⟨_, by rw [hF.2 a (List.getElem?_eq_some_iff.1 hM0).1 hne hnot]; exact hM0, fun j v hj => by rw [Nat.zero_add]; exact tcs_get _ k hk j v hj⟩⟩) hbd hpl (by rw [hsl, hrl]; omega)
    refine AW.rebase ?_
    (repeat (first | (with_reducible refine AWo.cons ?_) | ((with_reducible refine Step.id ?_); first | ((with_reducible apply Step.move); exact rfl; exact rfl) | ((with_reducible apply Step.lss); exact rfl; exact rfl; exact rfl)) | (with_reducible refine AWo.nil ?_) | ((with_reducible apply AW.seq)) | ((with_reducible apply Then.n)) | ((with_reducible apply AW.regL)) | ((with_reducible apply AW.exit)) | ((with_reducible apply InBlk.hit)) | ((with_reducible apply Then.e)) | ((with_reducible apply AW.condF); exact rfl; (focus ((simp only [decide_eq_true_eq, decide_eq_false_iff_not, Bool.not_eq_true', Bool.not_eq_false', Bool.not_true, Bool.not_false]; first | assumption | omega))))))
    ((with_reducible apply Step.callF fit); exact rfl; exact Try.func28; exact rfl; exact rfl; (focus (rw [List.append_nil]; exact hP)))
    rintro r3 M3 ⟨u, rfl, hB3, hF3, hn3, hz3⟩
    rw [← List.append_nil M3]
    (repeat (first | (with_reducible refine AWo.cons ?_) | ((with_reducible refine Step.id ?_); first | ((with_reducible apply Step.assign); exact rfl; exact rfl) | ((with_reducible apply Step.extract); exact rfl; exact rfl; exact rfl)) | (with_reducible refine AWo.nil ?_) | ((with_reducible apply Then.n))))
    (refine AW.ret ?_; (repeat (first | refine Then.r ?_ | refine InBlk.r ?_)))
    have hF : Fr m M3 bk pv := ⟨by have := hF3.1; rw [List.length_append] at this; omega, fun j hj h1 h2 => by rw [hF3.2 j (by rw [List.length_append]; omega) h1 h2, List.getElem?_append_left hj]⟩
    rw [List.append_nil]
    exact ⟨_, rfl, u, rfl, hB3, hF, fun j hj hn => hn3 j (by rw [List.length_append]; omega) hn, hz3⟩
end Go.Proofs.Ytabdnepfcohncaa.Abs
namespace Go.Proofs.Ytabdnepfcohncaa.Abs
set_option linter.unusedSimpArgs false
set_option linter.unusedVariables false
open Go.RowKit
open Go.Proofs.Ytabdnepfcohncaa.Sim
open Go.Proofs
/-- The sum of an item's counts at the first n places. -/
def totS (H : List Int) (i : Nat) : Nat → Int
  | 0 => 0
  | n + 1 => totS H i n + H.getD (n * 16 + i) 0
theorem totS_bd {H : List Int} {b : Int} (h : Bd H b) (hb : 0 ≤ b) (i : Nat) : ∀ n, -(b * n) ≤ totS H i n ∧ totS H i n ≤ b * n
  | 0 => by simp [totS]
  | n + 1 => by
    have h1 := totS_bd h hb i n
    have h2 := h (n * 16 + i)
    have e : b * ((n + 1 : Nat) : Int) = b * n + b := by push_cast; rw [Int.mul_add, Int.mul_one]
    rw [e]
    unfold totS
    omega
set_option maxHeartbeats 8000000 in
set_option maxRecDepth 100000 in
theorem Total_ok {m : AM} {b0 bk i : Nat} {B : Bk} {pv : Value} (h : BookAt m b0 bk B pv) (hi : i < 16) (hbd : Bd B.H 1000000000) : ACall Try.prog 43 #[.pointer (some ⟨bk, 0, none⟩), .int .i64 (i : Nat)] m (Ret (.tuple #[.int .i64 (totS B.H i 16), .int .i64 0]) m) := by
  have hnone := fun T => none_ok (m := m ++ T) (bk := bk) (Rd.old T ⟨_, h.cells, bkc_0⟩)
  have hbl := h.lt
  have hlH := h.lH
  have hrd : ∀ T, RdL (m ++ T) bk 1 (iv B.H) := fun T => RdL.old T ⟨_, h.cells, fun j x hj => by
    have hj1 := (List.getElem?_eq_some_iff.1 hj).1
    rw [iv_len] at hj1
    rw [iv_get hj1] at hj
    rw [bkc_H hj1]
    exact hj⟩
  generalize B.H = H at *
  refine ACall.start Try.func43 rfl rfl ?_
  (repeat (first | (with_reducible refine AWo.cons ?_) | ((with_reducible refine Step.id ?_); first | ((with_reducible apply Step.gdT); exact rfl; exact rfl; (focus (rfl))) | ((with_reducible apply Step.move); exact rfl; exact rfl) | ((with_reducible apply Step.assign); exact rfl; exact rfl) | ((with_reducible apply Step.field (k := 1)); exact rfl; (focus (decide +kernel)); exact rfl) | ((with_reducible apply Step.lss); exact rfl; exact rfl; exact rfl) | ((with_reducible apply Step.geq); exact rfl; exact rfl; exact rfl) | ((with_reducible apply Step.nilp); exact rfl; exact rfl) | ((with_reducible apply Step.pickF); exact rfl; exact rfl; exact rfl; exact rfl; (focus (rfl))) | ((with_reducible apply Step.callR fit); exact rfl; exact Try.func83; exact rfl; exact rfl; exact (hnone _))) | (with_reducible refine AWo.nil ?_) | ((with_reducible apply AW.seq)) | ((with_reducible apply Then.n)) | ((with_reducible apply AW.regL)) | ((with_reducible apply AW.block)) | ((with_reducible apply InBlk.n)) | ((with_reducible apply AW.skip)) | ((with_reducible apply AW.condF); exact rfl; (focus (first | rfl | (simp only [decide_eq_true_eq, decide_eq_false_iff_not, Bool.not_eq_true', Bool.not_eq_false', Bool.not_true, Bool.not_false]; first | assumption | omega))))))
  ((with_reducible apply Step.loadL (n := 256)); exact rfl; exact ag130; exact sz130; exact rfl; exact (hrd _); (focus (rw [iv_len, hlH])); exact rfl)
  (repeat (first | (with_reducible refine AWo.cons ?_) | ((with_reducible refine Step.id ?_); ((with_reducible apply Step.move); exact rfl; exact rfl)) | (with_reducible refine AWo.nil ?_) | ((with_reducible apply Then.n)) | ((with_reducible apply AW.block))))
  refine AW.loopT (fun n t L => ∃ k : Nat, n = 16 - k ∧ k ≤ 16 ∧ L = [] ∧
    t = [(0, .pointer (some ⟨bk, 0, none⟩)), (1, .int .i64 (i : Nat)), (6, .int .i64 (totS H i k)), (22, .agg (iv H).toArray), (23, .int .i64 (k : Nat))]) ⟨_, _, _, (Or.inl ⟨rfl, (by repeat (first | exact trivial | (refine And.intro rfl ?_)))⟩), 0, rfl, Nat.zero_le _, rfl, rfl⟩ ?_
  rintro n t L ⟨k, rfl, hk, rfl, rfl⟩
  have htb := totS_bd hbd (by decide) i k
  have hz := hbd (k * 16 + i)
  rcases Nat.lt_or_ge k 16 with hlt | hge
  · have hrl := rowH_len hlH hlt
    have hst : totS H i (k + 1) = totS H i k + H.getD (k * 16 + i) 0 := rfl
    have hgr := rowH_get H k i hi
    generalize totS H i k = S at *
    (repeat (first | (with_reducible refine AWo.cons ?_) | ((with_reducible refine Step.id ?_); ((with_reducible apply Step.lss); exact rfl; exact rfl; exact rfl)) | (with_reducible refine AWo.nil ?_) | ((with_reducible apply AW.seq)) | ((with_reducible apply Then.n)) | ((with_reducible apply AW.regL)) | ((with_reducible apply AW.block)) | ((with_reducible apply AW.skip)) | ((with_reducible apply AW.condT); exact rfl; (focus ((simp only [decide_eq_true_eq, decide_eq_false_iff_not, Bool.not_eq_true', Bool.not_eq_false', Bool.not_true, Bool.not_false]; first | assumption | omega))))))
    ((with_reducible apply Step.indexW (s := 16)); exact rfl; exact rfl; exact un130; exact sz128; exact ag128; (focus (omega)); exact (iv_row H k); exact rfl)
    (repeat (first | (with_reducible refine AWo.cons ?_) | ((with_reducible refine Step.id ?_); ((with_reducible apply Step.alloc 0); exact rfl; exact ze128; exact rfl; (focus (first | (simp only [List.nil_append, List.cons_append, List.set_cons_zero, List.set_cons_succ, iv_set, bv_set, iv_rep, bv_rep]; done) | (simp only [List.nil_append, List.cons_append, List.set_cons_zero, List.set_cons_succ, iv_set, bv_set, iv_rep, bv_rep]; rfl) | rfl))))))
    ((with_reducible apply Step.storeA (k := 0) (n := 16)); exact rfl; exact rfl; exact rfl; exact rfl; exact sz128; (focus (show (iv _).toArray.size = _; rw [List.size_toArray, iv_len, hrl])); exact (iv_cells _); exact rfl; (focus (first | (simp only [List.nil_append, List.cons_append, List.set_cons_zero, List.set_cons_succ, iv_set, bv_set, iv_rep, bv_rep]; done) | (simp only [List.nil_append, List.cons_append, List.set_cons_zero, List.set_cons_succ, iv_set, bv_set, iv_rep, bv_rep]; rfl) | rfl)))
    (repeat (first | (with_reducible refine AWo.cons ?_) | ((with_reducible refine Step.id ?_); first | ((with_reducible apply Step.move); exact rfl; exact rfl) | ((with_reducible apply Step.load); exact rfl; (focus (decide +kernel)); exact rfl; (focus (exact Rd.new rfl (iv_get (by first | omega | (simp; omega)))))) | ((with_reducible apply Step.ixC (n := 16)); exact rfl; exact rfl; exact ar128; exact rfl; (focus (omega)))) | (with_reducible refine AWo.nil ?_) | ((with_reducible apply Then.n)) | ((with_reducible apply AW.regL))))
    simp only [Nat.zero_add, hgr]
    generalize H.getD (k * 16 + i) 0 = z at *
    (repeat (first | (with_reducible refine AWo.cons ?_) | ((with_reducible refine Step.id ?_); first | ((with_reducible apply Step.move); exact rfl; exact rfl) | ((with_reducible apply Step.assign); exact rfl; exact rfl) | ((with_reducible apply Step.add); exact rfl; exact rfl; (focus (omega)); exact rfl)) | (with_reducible refine AWo.nil ?_) | ((with_reducible apply Then.n)) | ((with_reducible apply AW.regL)) | ((with_reducible apply InBlk.n))))
    exact ⟨_, [(0, .pointer (some ⟨bk, 0, none⟩)), (1, .int .i64 (i : Nat)), (6, .int .i64 (S + z)), (22, .agg (iv H).toArray), (23, .int .i64 (k + 1 : Nat))], [], by omega, (Back.trim rfl rfl (by repeat (exact CellsOk.nil)) (by repeat (first | exact trivial | (refine And.intro ⟨rfl, by (first | exact .int _ _ | exact .ptr _ _ (by first | (simp; done) | omega | (simp; omega)) | exact Ren.aggI _)⟩ ?_)))), k + 1, rfl, by omega, rfl, by rw [hst]⟩
  · obtain rfl : k = 16 := by omega
    (repeat (first | (with_reducible refine AWo.cons ?_) | ((with_reducible refine Step.id ?_); first | ((with_reducible apply Step.move); exact rfl; exact rfl) | ((with_reducible apply Step.assign); exact rfl; exact rfl) | ((with_reducible apply Step.lss); exact rfl; exact rfl; exact rfl)) | (with_reducible refine AWo.nil ?_) | ((with_reducible apply AW.seq)) | ((with_reducible apply Then.n)) | ((with_reducible apply AW.regL)) | ((with_reducible apply AW.exit)) | ((with_reducible apply InBlk.hit)) | ((with_reducible apply Then.e)) | ((with_reducible apply AW.condF); exact rfl; (focus (rfl)))))
    (refine AW.retD (l := [(4, _), (5, _)]) (by repeat (first | exact trivial | (refine And.intro ⟨rfl, by (exact .int _ _)⟩ ?_))) ?_; (repeat (first | refine Then.r ?_ | refine InBlk.r ?_)))
    exact ⟨_, rfl, rfl, rfl⟩
/-- What one place gets another gives. -/
theorem dl_sum (i : Int) (x : Tr) (hx : okT x = true) : ∀ n : Nat, (List.range n).foldl (fun (s : Int) (p : Nat) => s + dl (p : Int) i x) 0 = (if x.i = i ∧ x.t < n then x.n else 0) - (if x.i = i ∧ x.f < n then x.n else 0)
  | 0 => by
    simp only [okT, decide_eq_true_eq] at hx
    rw [if_neg (by omega), if_neg (by omega)]; rfl
  | n + 1 => by
    rw [List.range_succ, List.foldl_append, dl_sum i x hx n]
    simp only [List.foldl_cons, List.foldl_nil]
    unfold dl
    by_cases h1 : x.i = i
    · simp only [h1, true_and]
      by_cases h2 : x.t < (n : Int)
      · rw [if_pos h2, if_pos (show x.t < ((n + 1 : Nat) : Int) by omega), if_neg (show ¬ x.t = (n : Int) by omega)]
        by_cases h3 : x.f < (n : Int)
        · rw [if_pos h3, if_pos (show x.f < ((n + 1 : Nat) : Int) by omega), if_neg (show ¬ x.f = (n : Int) by omega)]; omega
        · by_cases h4 : x.f = (n : Int)
          · rw [if_neg h3, if_pos h4, if_pos (show x.f < ((n + 1 : Nat) : Int) by omega)]; omega
          · rw [if_neg h3, if_neg h4, if_neg (show ¬ x.f < ((n + 1 : Nat) : Int) by omega)]; omega
      · by_cases h5 : x.t = (n : Int)
        · rw [if_neg h2, if_pos h5, if_pos (show x.t < ((n + 1 : Nat) : Int) by omega)]
          by_cases h3 : x.f < (n : Int)
          · rw [if_pos h3, if_pos (show x.f < ((n + 1 : Nat) : Int) by omega), if_neg (show ¬ x.f = (n : Int) by omega)]; omega
          · by_cases h4 : x.f = (n : Int)
            · rw [if_neg h3, if_pos h4, if_pos (show x.f < ((n + 1 : Nat) : Int) by omega)]; omega
            · rw [if_neg h3, if_neg h4, if_neg (show ¬ x.f < ((n + 1 : Nat) : Int) by omega)]; omega
        · rw [if_neg h2, if_neg h5, if_neg (show ¬ x.t < ((n + 1 : Nat) : Int) by omega)]
          by_cases h3 : x.f < (n : Int)
          · rw [if_pos h3, if_pos (show x.f < ((n + 1 : Nat) : Int) by omega), if_neg (show ¬ x.f = (n : Int) by omega)]; omega
          · by_cases h4 : x.f = (n : Int)
            · rw [if_neg h3, if_pos h4, if_pos (show x.f < ((n + 1 : Nat) : Int) by omega)]; omega
            · rw [if_neg h3, if_neg h4, if_neg (show ¬ x.f < ((n + 1 : Nat) : Int) by omega)]; omega
    · simp only [h1, false_and, if_false]; omega
theorem fold_add {α : Type} (f g : α → Int) : ∀ (l : List α) (a b : Int), l.foldl (fun s p => s + (f p + g p)) (a + b) = l.foldl (fun s p => s + f p) a + l.foldl (fun s p => s + g p) b
  | [], a, b => rfl
  | x :: l, a, b => by
    simp only [List.foldl_cons]
    rw [← fold_add f g l (a + f x) (b + g x)]
    congr 1
    omega
theorem hsum_tot (i : Int) : ∀ (l : List Tr), l.all okT = true → (List.range 16).foldl (fun (s : Int) (p : Nat) => s + hsum (p : Int) i l) 0 = 0
  | [], _ => rfl
  | x :: l, h => by
    rw [List.all_cons, Bool.and_eq_true] at h
    have h1 := dl_sum i x h.1 16
    have h2 := hsum_tot i l h.2
    have e : (fun (s : Int) (p : Nat) => s + hsum (p : Int) i (x :: l)) = fun (s : Int) (p : Nat) => s + (dl (p : Int) i x + hsum (p : Int) i l) := rfl
    have h3 := fold_add (fun p : Nat => dl (p : Int) i x) (fun p : Nat => hsum (p : Int) i l) (List.range 16) 0 0
    rw [e]
    rw [show (0 : Int) + 0 = 0 from rfl] at h3
    rw [h3, h1, h2]
    have := h.1
    simp only [okT, decide_eq_true_eq] at this
    by_cases q : x.i = i
    · rw [if_pos ⟨q, by omega⟩, if_pos ⟨q, by omega⟩]; omega
    · rw [if_neg (fun e => q e.1), if_neg (fun e => q e.1)]; omega
theorem totS_fold (H : List Int) (i : Nat) : ∀ n, totS H i n = (List.range n).foldl (fun s p => s + H.getD (p * 16 + i) 0) 0
  | 0 => rfl
  | n + 1 => by
    rw [List.range_succ, List.foldl_append, ← totS_fold H i n]
    rfl
theorem foldl_congr' {α β : Type} {f g : β → α → β} : ∀ {l : List α} {a : β}, (∀ b x, x ∈ l → f b x = g b x) → l.foldl f a = l.foldl g a
  | [], _, _ => rfl
  | x :: l, a, h => by
    rw [List.foldl_cons, List.foldl_cons, h a x (by simp)]
    exact foldl_congr' fun b y hy => h b y (by simp [hy])
theorem Good.all_ok {B : Bk} (h : Good B) : B.P.flatten.all okT = true := by
  rw [List.all_eq_true]
  intro x hx
  obtain ⟨l, hl, hx⟩ := List.mem_flatten.1 hx
  exact List.all_eq_true.1 (postB_all (h.ok l hl)).2.2 x hx
/-- The total of an item is nought. -/
theorem Good.tot {B : Bk} (h : Good B) {i : Nat} (hi : i < 16) : totS B.H i 16 = 0 := by
  rw [totS_fold]
  refine Eq.trans ?_ (hsum_tot (i : Int) B.P.flatten h.all_ok)
  refine foldl_congr' fun b p hp => ?_
  show b + _ = b + _
  rw [h.H p i (List.mem_range.1 hp) hi]
end Go.Proofs.Ytabdnepfcohncaa.Abs
namespace Go.Proofs.Ytabdnepfcohncaa.Abs
set_option linter.unusedSimpArgs false
set_option linter.unusedVariables false
open Go.RowKit
open Go.Proofs.Ytabdnepfcohncaa.Sim
open Go.Proofs
/-- Blocks from n on belong to i. -/
def asg (ow : Nat → Nat) (n i : Nat) : Nat → Nat := fun j => if j < n then ow j else i
theorem asg_lt {ow : Nat → Nat} {n i j : Nat} (h : j < n) : asg ow n i j = ow j := if_pos h
theorem asg_ge {ow : Nat → Nat} {n i j : Nat} (h : n ≤ j) : asg ow n i j = i := if_neg (by omega)
/-- Objects, each in blocks of its own; the law's own rows are object 1. -/
structure Side (m : AM) (ow : Nat → Nat) (M : AM) (obj : Nat → AM → Prop) : Prop where
  len : m.length ≤ M.length
  base : ∀ j, j < m.length → M[j]? = m[j]? ∧ ow j = 1
  at_ : ∀ k, obj k (vw (fun j => ow j = k) M)
  mono : ∀ k A A', MSub A A' → obj k A → obj k A'
theorem Side.app {m : AM} {ow : Nat → Nat} {M : AM} {obj : Nat → AM → Prop} (h : Side m ow M obj) (N : AM) (i : Nat) : Side m (asg ow M.length i) (M ++ N) obj := by
  refine ⟨by rw [List.length_append]; have := h.len; omega, fun j hj => ?_, fun k => ?_, h.mono⟩
  · have := h.len
    rw [List.getElem?_append_left (by omega), asg_lt (by omega)]
    exact h.base j hj
  · refine h.mono k _ _ ⟨by rw [vw_len, vw_len, List.length_append]; omega, fun j b _ hj => ?_⟩ (h.at_ k)
    obtain ⟨h1, h2⟩ := vw_some.1 hj
    exact vw_some.2 ⟨by show asg ow M.length i j = k; rw [asg_lt (List.getElem?_eq_some_iff.1 h2).1]; exact h1, get_old _ h2⟩
/-- The law turns its own blocks. -/
theorem Side.law {m : AM} {ow : Nat → Nat} {M M2 : AM} {obj obj' : Nat → AM → Prop} {D : Nat → Prop} (h : Side m ow M obj) (hk : Keep D M M2) (hD : ∀ j, D j → ow j = 1 ∧ m.length ≤ j) (he : ∀ k, k ≠ 1 → obj' k = obj k) (h1 : obj' 1 (vw (fun j => asg ow M.length 1 j = 1) M2)) (hm : ∀ k A A', MSub A A' → obj' k A → obj' k A') : Side m (asg ow M.length 1) M2 obj' := by
  refine ⟨by have := h.len; have := hk.len; omega, fun j hj => ?_, fun k => ?_, hm⟩
  · have := h.len
    rw [asg_lt (by omega), hk.get j (by omega) (fun e => by have := (hD j e).2; omega)]
    exact h.base j hj
  · by_cases e : k = 1
    · subst e; exact h1
    · rw [he k e]
      refine h.mono k _ _ ⟨by rw [vw_len, vw_len]; exact hk.len, fun j b _ hj => ?_⟩ (h.at_ k)
      obtain ⟨q1, q2⟩ := vw_some.1 hj
      have hl := (List.getElem?_eq_some_iff.1 q2).1
      refine vw_some.2 ⟨by show asg ow M.length 1 j = k; rw [asg_lt hl]; exact q1, ?_⟩
      rw [hk.get j hl (fun e' => e (by rw [← (hD j e').1]; exact q1.symm))]
      exact q2
/-- A call on some of the objects. -/
theorem Side.call {m : AM} {ow ow2 : Nat → Nat} {M M' M2 : AM} {obj obj' : Nat → AM → Prop} {I : Nat → Prop} (h : Side m ow M obj) (hF : Fra (fun j => I (ow j)) M M' M2) (hc : ∀ i, i < M.length → ¬ I (ow i) → M'[i]? = some none) (h1 : ¬ I 1) (h2 : ∀ j, j < M.length → ¬ I (ow j) → ow2 j = ow j)
    (h4 : ∀ k, ¬ I k → obj' k = obj k) (h5 : ∀ k, I k → obj' k (vw (fun j => ow2 j = k) M')) (hm : ∀ k A A', MSub A A' → obj' k A → obj' k A') : Side m ow2 M2 obj' := by
  have hmM : ∀ j, j < m.length → j < M.length := fun j hj => by have := h.len; omega
  refine ⟨by have := h.len; have := hF.len; omega, fun j hj => ?_, fun k => ?_, hm⟩
  · have hb := h.base j hj
    have hn : ¬ I (ow j) := by rw [hb.2]; exact h1
    rw [hF.out j (hmM j hj) hn, h2 j (hmM j hj) hn]
    exact hb
  · by_cases e : I k
    · refine hm k _ _ ⟨by rw [vw_len, vw_len]; exact hF.le, fun j b hb hj => ?_⟩ (h5 k e)
      obtain ⟨q1, q2⟩ := vw_some.1 hj
      refine vw_some.2 ⟨q1, hF.get j b (fun hl => ?_) q2 (.inl hb)⟩
      by_cases e2 : I (ow j)
      · exact e2
      · rw [hc j hl e2] at q2; cases q2
    · rw [h4 k e]
      refine h.mono k _ _ ⟨by rw [vw_len, vw_len]; exact hF.len, fun j b _ hj => ?_⟩ (h.at_ k)
      obtain ⟨q1, q2⟩ := vw_some.1 hj
      have hl := (List.getElem?_eq_some_iff.1 q2).1
      have hn : ¬ I (ow j) := by rw [q1]; exact e
      exact vw_some.2 ⟨by rw [h2 j hl hn]; exact q1, by rw [hF.out j hl hn]; exact q2⟩
theorem Row.vw {S : Nat → Prop} {M : AM} {b0 s : Nat} {u : Value} {c : List Value} {n : Nat} (h : Row M b0 s u c n) (hs : ∀ a, b0 ≤ a → S a) : Row (Abs.vw S M) b0 s u c n := by
  rcases h with h | ⟨a, kd, sz, h1, h2, h3, h4, h5⟩
  · exact .inl h
  · exact .inr ⟨a, kd, sz, h1, h2, vw_some.2 ⟨hs a h1, h3⟩, h4, h5⟩
theorem DoneC.msub {M M' : AM} {ck bk : Nat} (h : DoneC M ck bk) (hs : MSub M M') : DoneC M' ck bk := by
  obtain ⟨b, h1, h2, h3, h4, h5⟩ := h
  exact ⟨b, hs.get _ _ h2 h1, h2, h3, h4, by have := hs.len; omega⟩
theorem DoneC.busy {m : AM} {ck bk : Nat} (h : DoneC m ck bk) (T : AM) : ACall Try.prog 91 #[.pointer (some ⟨ck, 0, none⟩)] (m ++ T) (Ret (.int .i64 9) (m ++ T)) := by
  obtain ⟨b, h1, h2, h3, h4, h5⟩ := h
  exact busy_ok (dn := true) (Rd.old T ⟨_, h1, h3⟩) (Rd.old T ⟨_, h1, h4⟩)
set_option maxRecDepth 100000 in
theorem Move_done {m : AM} {ck bk : Nat} (x : Tr) (h : DoneC m ck bk) : ACall Try.prog 33 #[.pointer (some ⟨ck, 0, none⟩), x.v] m (fun r M => r = .int .i64 9 ∧ ∃ N, M = m ++ N) := by
  have hb := h.busy
  refine ACall.start Try.func33 rfl rfl ?_
  (repeat (first | (with_reducible refine AWo.cons ?_) | ((with_reducible refine Step.id ?_); first | ((with_reducible apply Step.move); exact rfl; exact rfl) | ((with_reducible apply Step.assign); exact rfl; exact rfl) | ((with_reducible apply Step.neq); exact rfl; exact rfl; exact rfl) | ((with_reducible apply Step.callR fit); exact rfl; exact Try.func91; exact rfl; exact rfl; exact (hb _)) | ((with_reducible apply Step.box 0); exact rfl; exact rfl; (focus (kernel_rfl)); exact rfl; (focus (first | (simp only [List.nil_append, List.cons_append, List.set_cons_zero, List.set_cons_succ, iv_set, bv_set, iv_rep, bv_rep]; done) | (simp only [List.nil_append, List.cons_append, List.set_cons_zero, List.set_cons_succ, iv_set, bv_set, iv_rep, bv_rep]; rfl) | rfl)))) | (with_reducible refine AWo.nil ?_) | ((with_reducible apply AW.seq)) | ((with_reducible apply Then.n)) | ((with_reducible apply AW.regL)) | ((with_reducible apply AW.block)) | ((with_reducible apply AW.condT); exact rfl; (focus (rfl)))))
  (refine AW.ret ?_; (repeat (first | refine Then.r ?_ | refine InBlk.r ?_)))
  exact ⟨_, rfl, rfl, _, rfl⟩
set_option maxRecDepth 100000 in
theorem Commit_done {m : AM} {ck bk : Nat} (h : DoneC m ck bk) : ACall Try.prog 41 #[.pointer (some ⟨ck, 0, none⟩)] m (Ret (.tuple #[.int .i64 0, .int .i64 9]) m) := by
  have hb := h.busy
  refine ACall.start Try.func41 rfl rfl ?_
  (repeat (first | (with_reducible refine AWo.cons ?_) | ((with_reducible refine Step.id ?_); first | ((with_reducible apply Step.move); exact rfl; exact rfl) | ((with_reducible apply Step.assign); exact rfl; exact rfl) | ((with_reducible apply Step.neq); exact rfl; exact rfl; exact rfl) | ((with_reducible apply Step.callR fit); exact rfl; exact Try.func91; exact rfl; exact rfl; exact (hb _))) | (with_reducible refine AWo.nil ?_) | ((with_reducible apply AW.seq)) | ((with_reducible apply Then.n)) | ((with_reducible apply AW.regL)) | ((with_reducible apply AW.condT); exact rfl; (focus (rfl)))))
  (refine AW.retD (l := [(2, _), (3, _)]) (by repeat (first | exact trivial | (refine And.intro ⟨rfl, by (exact .int _ _)⟩ ?_))) ?_; (repeat (first | refine Then.r ?_ | refine InBlk.r ?_)))
  exact ⟨_, rfl, rfl, rfl⟩
set_option maxRecDepth 100000 in
theorem Held_done {m : AM} {ck bk : Nat} (p i : Int) (h : DoneC m ck bk) : ACall Try.prog 31 #[.pointer (some ⟨ck, 0, none⟩), .int .i64 p, .int .i64 i] m (Ret (.tuple #[.int .i64 0, .int .i64 9]) m) := by
  have hb := h.busy
  refine ACall.start Try.func31 rfl rfl ?_
  (repeat (first | (with_reducible refine AWo.cons ?_) | ((with_reducible refine Step.id ?_); first | ((with_reducible apply Step.move); exact rfl; exact rfl) | ((with_reducible apply Step.assign); exact rfl; exact rfl) | ((with_reducible apply Step.neq); exact rfl; exact rfl; exact rfl) | ((with_reducible apply Step.callR fit); exact rfl; exact Try.func91; exact rfl; exact rfl; exact (hb _))) | (with_reducible refine AWo.nil ?_) | ((with_reducible apply AW.seq)) | ((with_reducible apply Then.n)) | ((with_reducible apply AW.regL)) | ((with_reducible apply AW.condT); exact rfl; (focus (rfl)))))
  (refine AW.retD (l := [(6, _), (7, _)]) (by repeat (first | exact trivial | (refine And.intro ⟨rfl, by (exact .int _ _)⟩ ?_))) ?_; (repeat (first | refine Then.r ?_ | refine InBlk.r ?_)))
  exact ⟨_, rfl, rfl, rfl⟩
set_option maxRecDepth 100000 in
theorem Drop_done {m : AM} {ck bk : Nat} (h : DoneC m ck bk) : ACall Try.prog 69 #[.pointer (some ⟨ck, 0, none⟩)] m (Ret (.int .i64 9) m) := by
  have hb := h.busy
  refine ACall.start Try.func69 rfl rfl ?_
  (repeat (first | (with_reducible refine AWo.cons ?_) | ((with_reducible refine Step.id ?_); first | ((with_reducible apply Step.move); exact rfl; exact rfl) | ((with_reducible apply Step.assign); exact rfl; exact rfl) | ((with_reducible apply Step.neq); exact rfl; exact rfl; exact rfl) | ((with_reducible apply Step.callR fit); exact rfl; exact Try.func91; exact rfl; exact rfl; exact (hb _))) | (with_reducible refine AWo.nil ?_) | ((with_reducible apply AW.seq)) | ((with_reducible apply Then.n)) | ((with_reducible apply AW.regL)) | ((with_reducible apply AW.condT); exact rfl; (focus (rfl)))))
  (refine AW.retD (l := [(2, _)]) (by repeat (first | exact trivial | (refine And.intro ⟨rfl, by (exact .int _ _)⟩ ?_))) ?_; (repeat (first | refine Then.r ?_ | refine InBlk.r ?_)))
  exact ⟨_, rfl, rfl, rfl⟩
/-- A book lies nowhere where a clerk lies. -/
theorem BookAt.without {M : AM} {b0 bk ck : Nat} {B : Bk} {pv : Value} {b : Blk} {p : Option Addr} (h : BookAt M b0 bk B pv) (hc : M[ck]? = some (some b)) (hp : b.cells[0]? = some (.pointer p)) {S : Nat → Prop} (hS : ∀ i, i ≠ ck → (∃ c, M[i]? = some (some c)) → S i) : BookAt (vw S M) b0 bk B pv := by
  have ne : ∀ (i : Nat) (c : Blk), M[i]? = some (some c) → c.cells[0]? ≠ some (.pointer p) → S i := fun i c hi hn => hS i (fun e => by
    rw [e, hc] at hi
    simp only [Option.some.injEq] at hi
    exact hn (hi ▸ hp)) ⟨c, hi⟩
  obtain ⟨h1, h2, h3, h4, pc, h5, h6⟩ := h
  refine ⟨h1, vw_some.2 ⟨ne _ _ h2 (by rw [bkc_0]; simp), h2⟩, h3, h4, pc, ?_, fun k hk => ?_⟩
  · rcases h5 with h5 | ⟨a, kd, sz, q1, q2, q3, q4, q5⟩
    · exact .inl h5
    · refine .inr ⟨a, kd, sz, q1, q2, vw_some.2 ⟨ne _ _ q3 (fun e => ?_), q3⟩, q4, q5⟩
      have h0 : 0 < B.P.length := by
        have := (List.getElem?_eq_some_iff.1 e).1
        simp only at this
        omega
      obtain ⟨u, w1, a', _, _, w2, _⟩ := h6 0 h0
      simp only at e
      rw [w1, w2] at e
      cases e
  · obtain ⟨u, k1, a, w1, w2, w3, ⟨c, w4, w5, w6⟩, w7⟩ := h6 k hk
    refine ⟨u, k1, a, w1, by rw [vw_len]; exact w2, w3, ⟨c, vw_some.2 ⟨ne _ _ w4 (fun e => ?_), w4⟩, w5, w6⟩, w7⟩
    have := w6 0 (.int .i64 ((B.P.getD k []).getD 0 default).i) (by simpa using tcs_get (B.P.getD k []) 0 w7 0 _ rfl)
    rw [Nat.zero_add, e] at this
    cases this
end Go.Proofs.Ytabdnepfcohncaa.Abs
