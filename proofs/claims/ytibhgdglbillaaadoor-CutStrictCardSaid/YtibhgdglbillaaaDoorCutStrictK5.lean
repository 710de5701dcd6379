/- Proved here: what the proof of CutStrict rests on, part 5 of 5. Conditions: those that each theorem names. -/
import Derived.Test.YtibhgdglbillaaaDoorCutStrictK4
namespace Go.Proofs.YtibhgdglbillaaaDoor.Abs
set_option linter.unusedSimpArgs false
set_option linter.unusedVariables false
open Go.RowKit
open Go.Proofs.YtibhgdglbillaaaDoor.Sim
open Go.Proofs
theorem Step.max3 {P : Program} {nt d : Nat} {ops : Array Oper} {T : TypeId} {p : String} {af : Array Edge} {t : Fm} {m : AM} {K : Fm → AM → Prop} {x y z : Operand} {X Y Z : TypeId} {a b c : Int} {k : IntKind} (hx : evo t x = some (.int k a)) (hy : evo t y = some (.int k b)) (hz : evo t z = some (.int k c)) (hlt : Nat.blt d nt = true) (hK : K (put t d (.int k (Max.max (Max.max a b) c))) m) :
    Step P nt ops ⟨some d, .call ⟨.builtin .max, #[x, y, z], #[X, Y, Z]⟩, T, p, af, none⟩ t m K := by
  refine .ground rfl rfl hlt (by simp [Op.operands, Call.operands, hx, hy, hz, g1, g0]) (fun h => by simpa [aquiet] using h) ?_ (by simp [g1, g0]) hK
  have h1 : (if b > a then b else a) = Max.max a b := by rw [Int.max_def]; split <;> split <;> omega
  have h2 : (if c > Max.max a b then c else Max.max a b) = Max.max (Max.max a b) c := by rw [Int.max_def (Max.max a b) c]; split <;> split <;> omega
  simp [execOp, resolve, invoke, builtin, Builtin.max_, Builtin.max2, evD_of hx, evD_of hy, evD_of hz, h1, h2, bind, Sem.bind, pure, Sim.still]
theorem RR_in {B : Brd} {K : List Kd} (hg : goodB B K = true) (t : Nat) (d : Bool) {r : R4} (hr : r.ok (bw B) (bh B)) : 0 ≤ RR (leafM B K) t d r ∧ RR (leafM B K) t d r ≤ 1000000000000 := by
  rw [RR_eq t d r hr]; exact SS_in hg t d hr
set_option maxRecDepth 100000 in
theorem RStrict_no {m : AM} {sv kv : Value} {B : Brd} {K : List Kd} {t : Int} (hs : Strs m sv B) (hk : Kds m kv K) (h0 : goodB B K = false ∨ t < 0 ∨ 32 < t) :
    ACall Tryd.prog 29 #[sv, kv, .int .i64 t] m (Ret (.tuple #[.int .i64 0, .int .i64 2]) m) := by
  have hG := fun T => RGood_ok (hs.old T) (hk.old T)
  refine ACall.start Tryd.func29 rfl rfl ?_
  cases hg : goodB B K with
  | false =>
    rw [hg] at hG
    (repeat (first | (with_reducible refine AWo.cons ?_) | ((with_reducible refine Step.id ?_); first | ((with_reducible apply Step.gdF); exact rfl; exact rfl; (focus (rfl))) | ((with_reducible apply Step.move); exact rfl; exact rfl) | ((with_reducible apply Step.assign); exact rfl; exact rfl) | ((with_reducible apply Step.not); exact rfl; exact rfl) | ((with_reducible apply Step.pickT); exact rfl; exact rfl; exact rfl; exact rfl; (focus (rfl))) | ((with_reducible apply Step.callR fit); exact rfl; exact Tryd.func24; exact rfl; exact rfl; exact (hG _))) | (with_reducible refine AWo.nil ?_) | ((with_reducible apply AW.seq)) | ((with_reducible apply Then.n)) | ((with_reducible apply AW.regL)) | ((with_reducible apply AW.condT); exact rfl; (focus (rfl)))))
    (refine AW.retD (l := [(6, _), (7, _)]) (by repeat (first | exact trivial | (refine And.intro ⟨rfl, by (exact .int _ _)⟩ ?_))) ?_; (repeat (first | refine Then.r ?_ | refine InBlk.r ?_)))
    exact ⟨_, rfl, rfl, rfl⟩
  | true =>
    rw [hg] at hG
    rcases h0 with h0 | h0 | h0
    · rw [hg] at h0; cases h0
    all_goals
      (repeat (first | (with_reducible refine AWo.cons ?_) | ((with_reducible refine Step.id ?_); first | ((with_reducible apply Step.gdT); exact rfl; exact rfl; (focus (first | rfl | (simp only [decide_eq_true_eq, decide_eq_false_iff_not, Bool.not_eq_true', Bool.not_eq_false', Bool.not_true, Bool.not_false]; first | assumption | omega)))) | ((with_reducible apply Step.gdF); exact rfl; exact rfl; (focus ((simp only [decide_eq_true_eq, decide_eq_false_iff_not, Bool.not_eq_true', Bool.not_eq_false', Bool.not_true, Bool.not_false]; first | assumption | omega)))) | ((with_reducible apply Step.move); exact rfl; exact rfl) | ((with_reducible apply Step.assign); exact rfl; exact rfl) | ((with_reducible apply Step.lss); exact rfl; exact rfl; exact rfl) | ((with_reducible apply Step.gtr); exact rfl; exact rfl; exact rfl) | ((with_reducible apply Step.not); exact rfl; exact rfl) | ((with_reducible apply Step.pickT); exact rfl; exact rfl; exact rfl; exact rfl; (focus ((simp only [decide_eq_true_eq, decide_eq_false_iff_not, Bool.not_eq_true', Bool.not_eq_false', Bool.not_true, Bool.not_false]; first | assumption | omega)))) | ((with_reducible apply Step.pickF); exact rfl; exact rfl; exact rfl; exact rfl; (focus (first | rfl | (simp only [decide_eq_true_eq, decide_eq_false_iff_not, Bool.not_eq_true', Bool.not_eq_false', Bool.not_true, Bool.not_false]; first | assumption | omega)))) | ((with_reducible apply Step.callR fit); exact rfl; exact Tryd.func24; exact rfl; exact rfl; exact (hG _))) | (with_reducible refine AWo.nil ?_) | ((with_reducible apply AW.seq)) | ((with_reducible apply Then.n)) | ((with_reducible apply AW.regL)) | ((with_reducible apply AW.condT); exact rfl; (focus (first | rfl | (simp only [decide_eq_true_eq, decide_eq_false_iff_not, Bool.not_eq_true', Bool.not_eq_false', Bool.not_true, Bool.not_false]; first | assumption | omega))))))
      (refine AW.retD (l := [(6, _), (7, _)]) (by repeat (first | exact trivial | (refine And.intro ⟨rfl, by (exact .int _ _)⟩ ?_))) ?_; (repeat (first | refine Then.r ?_ | refine InBlk.r ?_)))
      exact ⟨_, rfl, rfl, rfl⟩
set_option maxHeartbeats 16000000 in
set_option maxRecDepth 100000 in
theorem RStrict_ok {m : AM} {sv kv : Value} {B : Brd} {K : List Kd} {t : Nat} (hs : Strs m sv B) (hk : Kds m kv K) (hg : goodB B K = true) (ht : t ≤ 32) :
    ACall Tryd.prog 29 #[sv, kv, .int .i64 (t : Nat)] m (Ret (.tuple #[.int .i64 (strictM (leafM B K) (bw B) (bh B) t (wholeR B)), .int .i64 0]) m) := by
  have hG := fun T => RGood_ok (hs.old T) (hk.old T)
  rw [hg] at hG
  have hgb : boardB B = true := by simp only [goodB, Bool.and_eq_true] at hg; exact hg.1
  have hin := good_in hgb
  have hR := fun m => RRects_ok (m := m) (bw B : Nat) (bh B : Nat)
  rw [total_rects hg] at hR
  have htl := total_le hin.2.2.2 hin.2.1
  have hb0 : 0 < B.length := hin.1
  have hpc := fun T r (hr : R4.ok (bw B) (bh B) r) => piece_ok (hs.old T) (hk.old T) hg hr
  have hV := fun t d r (hr : R4.ok (bw B) (bh B) r) => RR_in hg t d hr
  have hpos : ∀ r, 0 ≤ leafM B K r := fun r => (leafM_in hg r).1
  have hEE := fun (t : Nat) pv hp => rsstep_each (leaf := leafM B K) (t := t) (pv := pv) hin.2.2.2 hin.2.1 hpos hp
  have hTT := rT_ok (leaf := leafM B K) hin.2.2.2 hin.2.1 hpos
  have hok : (wholeR B).ok (bw B) (bh B) := by simp only [R4.ok, wholeR]; omega
  have hTS := fun t => rT_strict (leaf := leafM B K) hin.2.2.2 hin.2.1 hpos t hok
  have hBU := fun k => bestS_up (leaf := leafM B K) hpos (k := k) hok
  have hatW := at_lt hin.2.2.2 hin.2.1 hok
  have nnW := fun M => place_ok' (m := M) hin.2.2.2 hin.2.1 hok
  change ∀ M, ACall Tryd.prog 64 #[_, _, .agg #[.int .i64 0, .int .i64 0, .int .i64 (bw B : Nat), .int .i64 (bh B : Nat)]] _ _ at nnW
  have hlf := leafM_in hg
  obtain ⟨A1, O1, sl1, la1, rd1⟩ := hs
  obtain ⟨pa, c1, rfl⟩ := sl1.shape
  have r0 := rd1 0 hb0
  obtain ⟨A2, O2, sl2, la2, _⟩ := hk
  obtain ⟨pb, c2, rfl⟩ := sl2.shape
  refine ACall.drop (Ren.tup2 (.int _ _) (.int _ _)) ?_
  refine ACall.start Tryd.func29 rfl rfl ?_
  have hbst : strictM (leafM B K) (bw B) (bh B) t (wholeR B) = bestS (leafM B K) (bw B) (bh B) (wholeR B) (t + 1) := rfl
  rw [hbst]
  generalize hnW : (wholeR B).at (bw B) (bh B) = nW at *
  obtain ⟨w, hw⟩ : ∃ w, bw B = w := ⟨_, rfl⟩
  obtain ⟨h, hh⟩ : ∃ h, bh B = h := ⟨_, rfl⟩
  have hw' : (rowOf B 0).size = w := hw
  have hh' : B.length = h := hh
  have hTT' : ∀ t, RI2 (leafM B K) w h t (fun r => r.ok w h) (rT (leafM B K) w h t) := by rw [← hw, ← hh]; exact hTT
  rw [hw, hh] at hR htl hpc hV hEE hin hTS hBU hatW nnW
  rw [hw, hh]
  rw [hh'] at sl1 hG hpc
  rw [hh']
  simp only [pairV] at hR
  (repeat (first | (with_reducible refine AWo.cons ?_) | ((with_reducible refine Step.id ?_); first | ((with_reducible apply Step.gdT); exact rfl; exact rfl; (focus (rfl))) | ((with_reducible apply Step.move); exact rfl; exact rfl) | ((with_reducible apply Step.assign); exact rfl; exact rfl) | ((with_reducible apply Step.load); exact rfl; (focus (decide +kernel)); exact rfl; (focus (exact Rd.old _ (by assumption)))) | ((with_reducible apply Step.ix1 (k := 0)); exact rfl; (focus (assumption)); exact rfl; (focus (decide +kernel)); exact rfl; (focus (omega))) | ((with_reducible apply Step.lenS); exact rfl; exact un9; exact rfl) | ((with_reducible apply Step.lss); exact rfl; exact rfl; exact rfl) | ((with_reducible apply Step.gtr); exact rfl; exact rfl; exact rfl) | ((with_reducible apply Step.len); exact rfl; (focus (assumption)); (focus (decide +kernel)); exact rfl) | ((with_reducible apply Step.not); exact rfl; exact rfl) | ((with_reducible apply Step.pickF); exact rfl; exact rfl; exact rfl; exact rfl; (focus (rfl))) | ((with_reducible apply Step.callR fit); exact rfl; exact Tryd.func24; exact rfl; exact rfl; exact (hG _))) | (with_reducible refine AWo.nil ?_) | ((fail_if_success (with_reducible refine AW.atR (id := 4) ?_)); ((with_reducible apply AW.seq))) | ((with_reducible apply Then.n)) | ((with_reducible apply AW.regL)) | ((with_reducible apply AW.skip)) | ((with_reducible apply AW.condF); exact rfl; (focus ((simp only [decide_eq_true_eq, decide_eq_false_iff_not, Bool.not_eq_true', Bool.not_eq_false', Bool.not_true, Bool.not_false]; first | assumption | omega))))))
  rw [hw']
  (repeat (first | (with_reducible refine AWo.cons ?_) | ((with_reducible refine Step.id ?_); first | ((with_reducible apply Step.move); exact rfl; exact rfl) | ((with_reducible apply Step.assign); exact rfl; exact rfl) | ((with_reducible apply Step.extract); exact rfl; exact rfl; exact rfl) | ((with_reducible apply Step.callR fit); exact rfl; exact Tryd.func18; exact rfl; exact rfl; exact (hR _)) | ((with_reducible apply Step.alloc 0); exact rfl; exact ze110; exact rfl; (focus (first | (simp only [List.nil_append, List.cons_append, List.set_cons_zero, List.set_cons_succ, iv_set, bv_set, iv_rep, bv_rep]; done) | (simp only [List.nil_append, List.cons_append, List.set_cons_zero, List.set_cons_succ, iv_set, bv_set, iv_rep, bv_rep]; rfl) | rfl)))) | (with_reducible refine AWo.nil ?_) | ((with_reducible apply AW.seq)) | ((with_reducible apply Then.n)) | ((fail_if_success (with_reducible refine AW.atL (id := 6) ?_)); ((with_reducible apply AW.regL)))))
  refine AW.join (fun t' m' => ∃ c0 c1' X Y, m' = m ++ [some { cells := [c0, c1'] }, X, Y] ∧ All (fun i v => t' i = some v) [(0, .slice pa h c1), (1, .slice pb K.length c2), (2, .int .i64 (t : Nat)), (8, .int .i64 (w : Nat)), (9, .int .i64 (h : Nat)), (10, .int .i64 (total w h : Nat)), (12, .pointer (some ⟨m.length + 0, 0, none⟩))]) ?_ ?_
  · (repeat' (first | ((with_reducible refine Step.id ?_); first | ((with_reducible apply Step.move); exact rfl; exact rfl) | ((with_reducible apply Step.ixA (s := 1) (n := 2) (k := 0)); exact rfl; exact rfl; (focus (kernel_rfl)); exact rfl; (focus (omega))) | ((with_reducible apply Step.ixA (s := 1) (n := 2) (k := 1)); exact rfl; exact rfl; (focus (kernel_rfl)); exact rfl; (focus (omega))) | ((with_reducible apply Step.store (k := 0)); exact rfl; exact rfl; exact rfl; exact rfl; (focus (decide +kernel)); exact rfl; exact rfl; (focus (first | omega | (simp [iv, bv]; done) | (simp [iv, bv]; omega))); (focus (first | (simp only [List.nil_append, List.cons_append, List.set_cons_zero, List.set_cons_succ, iv_set, bv_set, iv_rep, bv_rep]; done) | (simp only [List.nil_append, List.cons_append, List.set_cons_zero, List.set_cons_succ, iv_set, bv_set, iv_rep, bv_rep]; rfl) | rfl))) | ((with_reducible apply Step.make1 1); exact rfl; exact rfl; exact rfl; exact el47; (focus (omega)); exact rfl; (focus (first | (simp only [List.nil_append, List.cons_append, List.set_cons_zero, List.set_cons_succ, iv_set, bv_set, iv_rep, bv_rep]; done) | (simp only [List.nil_append, List.cons_append, List.set_cons_zero, List.set_cons_succ, iv_set, bv_set, iv_rep, bv_rep]; rfl) | rfl))) | ((with_reducible apply Step.make1 2); exact rfl; exact rfl; exact rfl; exact el47; (focus (omega)); exact rfl; (focus (first | (simp only [List.nil_append, List.cons_append, List.set_cons_zero, List.set_cons_succ, iv_set, bv_set, iv_rep, bv_rep]; done) | (simp only [List.nil_append, List.cons_append, List.set_cons_zero, List.set_cons_succ, iv_set, bv_set, iv_rep, bv_rep]; rfl) | rfl)))) | ((with_reducible apply Then.n)) | ((with_reducible apply AW.drawT fit (T := (.step 0 (.step 2 (.both (.step 1 (.step 4 (.both (.step 3 (.step 5 (.step 6 (.step 7 .done)))) (.step 5 (.step 3 (.step 6 (.step 7 .done))))))) (.step 3 (.step 1 (.step 4 (.step 5 (.step 6 (.step 7 .done))))))))))); (focus (decide +kernel))) | ((with_reducible apply AWt.step); exact rfl) | ((with_reducible apply AWt.done)) | refine AWt.both ?_ ?_))
    all_goals exact ⟨_, _, _, _, rfl, (by repeat (first | exact trivial | (refine And.intro rfl ?_)))⟩
  rintro t' m' ⟨c0, c1', X, Y, rfl, hsl⟩
  refine AW.weak (fr_all hsl) ?_
  clear hsl
  (repeat (first | (with_reducible refine AWo.cons ?_) | ((with_reducible refine Step.id ?_); ((with_reducible apply Step.assign); exact rfl; exact rfl)) | (with_reducible refine AWo.nil ?_) | ((with_reducible apply AW.seq)) | ((with_reducible apply Then.n)) | ((with_reducible apply AW.regL)) | ((with_reducible apply AW.block))))
  refine AW.loopW (fun rk t' M => ∃ k : Nat, rk = t + 1 - k ∧ k ≤ t + 1 ∧ (∃ N, M = m ++ N) ∧ m.length < M.length ∧ (∃ c0 c1', M[m.length]? = some (some { cells := [c0, c1'] }) ∧ (k = 0 ∨ ∃ k' u0 u1, k = k' + 1 ∧ c0 = .slice (some ⟨u0, 0, none⟩) (total w h) (total w h) ∧ c1' = .slice (some ⟨u1, 0, none⟩) (total w h) (total w h) ∧
        u0 ≠ m.length ∧ u1 ≠ m.length ∧ M[u0]? = some (some { cells := iv (rT (leafM B K) w h k').1 }) ∧ M[u1]? = some (some { cells := iv (rT (leafM B K) w h k').2 }))) ∧
      t' = fr [(0, .slice pa h c1), (1, .slice pb K.length c2), (2, .int .i64 (t : Nat)), (8, .int .i64 (w : Nat)), (9, .int .i64 (h : Nat)), (10, .int .i64 (total w h : Nat)), (12, .pointer (some ⟨m.length + 0, 0, none⟩)), (13, .int .i64 (bestS (leafM B K) w h (wholeR B) k)), (14, .int .i64 (k : Nat))])
    ⟨_, _, (by repeat (first | exact trivial | (refine And.intro rfl ?_))), 0, rfl, Nat.zero_le _, ⟨_, rfl⟩, by simp, ⟨_, _, by rw [show m.length = m.length + 0 from rfl, get_app]; rfl, .inl rfl⟩, rfl⟩ ?_
  rintro rk t' M ⟨k, rfl, hk, hMN, hML, ⟨c0, c1', w3, w4⟩, rfl⟩
  rcases Nat.lt_or_ge k (t + 1) with hkt | hkt
  · have hbu := hBU k
    rw [← hTS k] at hbu
    generalize hbs : bestS (leafM B K) w h (wholeR B) k = bs at *
    refine AW.rebase ?_
    (repeat (first | (with_reducible refine AWo.cons ?_) | ((with_reducible refine Step.id ?_); first | ((with_reducible apply Step.move); exact rfl; exact rfl) | ((with_reducible apply Step.leq); exact rfl; exact rfl; exact rfl) | ((with_reducible apply Step.alloc 0); exact rfl; exact ze110; exact rfl; (focus (first | (simp only [List.nil_append, List.cons_append, List.set_cons_zero, List.set_cons_succ, iv_set, bv_set, iv_rep, bv_rep]; done) | (simp only [List.nil_append, List.cons_append, List.set_cons_zero, List.set_cons_succ, iv_set, bv_set, iv_rep, bv_rep]; rfl) | rfl)))) | (with_reducible refine AWo.nil ?_) | ((with_reducible apply AW.seq)) | ((with_reducible apply Then.n)) | ((fail_if_success (with_reducible refine AW.atL (id := 12) ?_)); ((with_reducible apply AW.regL))) | ((with_reducible apply AW.block)) | ((with_reducible apply AW.skip)) | ((with_reducible apply AW.condT); exact rfl; (focus ((simp only [decide_eq_true_eq, decide_eq_false_iff_not, Bool.not_eq_true', Bool.not_eq_false', Bool.not_true, Bool.not_false]; first | assumption | omega))))))
    refine AW.join (fun t' m' => ∃ q0 q1, m' = M ++ [some { cells := [.slice (some ⟨q0, 0, none⟩) (total w h) (total w h), .slice (some ⟨q1, 0, none⟩) (total w h) (total w h)] }, some { cells := iv (List.replicate (total w h) 0) }, some { cells := iv (List.replicate (total w h) 0) }] ∧ (q0 = M.length + 1 ∧ q1 = M.length + 2 ∨ q0 = M.length + 2 ∧ q1 = M.length + 1) ∧
      All (fun i v => t' i = some v) [(0, .slice pa h c1), (1, .slice pb K.length c2), (2, .int .i64 (t : Nat)), (8, .int .i64 (w : Nat)), (9, .int .i64 (h : Nat)), (10, .int .i64 (total w h : Nat)), (12, .pointer (some ⟨m.length + 0, 0, none⟩)), (13, .int .i64 bs), (14, .int .i64 (k : Nat)), (15, .pointer (some ⟨M.length + 0, 0, none⟩))]) ?_ ?_
    · (repeat' (first | ((with_reducible refine Step.id ?_); first | ((with_reducible apply Step.move); exact rfl; exact rfl) | ((with_reducible apply Step.ixA (s := 1) (n := 2) (k := 0)); exact rfl; exact rfl; (focus (kernel_rfl)); exact rfl; (focus (omega))) | ((with_reducible apply Step.ixA (s := 1) (n := 2) (k := 1)); exact rfl; exact rfl; (focus (kernel_rfl)); exact rfl; (focus (omega))) | ((with_reducible apply Step.store (k := 0)); exact rfl; exact rfl; exact rfl; exact rfl; (focus (decide +kernel)); exact rfl; exact rfl; (focus (first | omega | (simp [iv, bv]; done) | (simp [iv, bv]; omega))); (focus (first | (simp only [List.nil_append, List.cons_append, List.set_cons_zero, List.set_cons_succ, iv_set, bv_set, iv_rep, bv_rep]; done) | (simp only [List.nil_append, List.cons_append, List.set_cons_zero, List.set_cons_succ, iv_set, bv_set, iv_rep, bv_rep]; rfl) | rfl))) | ((with_reducible apply Step.make1 1); exact rfl; exact rfl; exact rfl; exact el47; (focus (omega)); exact rfl; (focus (first | (simp only [List.nil_append, List.cons_append, List.set_cons_zero, List.set_cons_succ, iv_set, bv_set, iv_rep, bv_rep]; done) | (simp only [List.nil_append, List.cons_append, List.set_cons_zero, List.set_cons_succ, iv_set, bv_set, iv_rep, bv_rep]; rfl) | rfl))) | ((with_reducible apply Step.make1 2); exact rfl; exact rfl; exact rfl; exact el47; (focus (omega)); exact rfl; (focus (first | (simp only [List.nil_append, List.cons_append, List.set_cons_zero, List.set_cons_succ, iv_set, bv_set, iv_rep, bv_rep]; done) | (simp only [List.nil_append, List.cons_append, List.set_cons_zero, List.set_cons_succ, iv_set, bv_set, iv_rep, bv_rep]; rfl) | rfl)))) | ((with_reducible apply Then.n)) | ((with_reducible apply AW.drawT fit (T := (.step 0 (.step 2 (.both (.step 1 (.step 4 (.both (.step 3 (.step 5 (.step 6 (.step 7 .done)))) (.step 5 (.step 3 (.step 6 (.step 7 .done))))))) (.step 3 (.step 1 (.step 4 (.step 5 (.step 6 (.step 7 .done))))))))))); (focus (decide +kernel))) | ((with_reducible apply AWt.step); exact rfl) | ((with_reducible apply AWt.done)) | refine AWt.both ?_ ?_))
      all_goals exact ⟨_, _, rfl, by omega, (by repeat (first | exact trivial | (refine And.intro rfl ?_)))⟩
    rintro t' m' ⟨q0, q1, hm', hq, hsl⟩
    refine AW.weak (fr_all hsl) ?_
    clear hsl
    have b0 : M.length ≤ q0 := by omega
    have b1 : M.length ≤ q1 := by omega
    have hne : q0 ≠ q1 := by omega
    have hml : m'.length = M.length + 3 := by rw [hm']; simp
    have j0 : q0 < m'.length := by omega
    have j1 : q1 < m'.length := by omega
    have z0 : m'[q0]? = some (some { cells := iv (List.replicate (total w h) 0) }) := by
      rw [hm']
      rcases hq with ⟨rfl, _⟩ | ⟨rfl, _⟩
      · rw [get_app]; rfl
      · rw [get_app]; rfl
    have z1 : m'[q1]? = some (some { cells := iv (List.replicate (total w h) 0) }) := by
      rw [hm']
      rcases hq with ⟨_, rfl⟩ | ⟨_, rfl⟩
      · rw [get_app]; rfl
      · rw [get_app]; rfl
    have z4 : m'[M.length + 0]? = some (some { cells := [.slice (some ⟨q0, 0, none⟩) (total w h) (total w h), .slice (some ⟨q1, 0, none⟩) (total w h) (total w h)] }) := by rw [hm', get_app]; rfl
    have n0 : M.length + 0 ≠ q0 := by omega
    have n1 : M.length + 0 ≠ q1 := by omega
    have hM' : ∃ L, m' = M ++ L := ⟨_, hm'⟩
    clear hq
    have hH : ∀ s, ∃ L, M2 m' q0 q1 s = M ++ L := fun s => M2.high b0 b1 hM'
    have hHm : ∀ s, ∃ L, M2 m' q0 q1 s = m ++ L := fun s => by
      obtain ⟨L, e⟩ := hH s
      obtain ⟨N, rfl⟩ := hMN
      exact ⟨_, by rw [e, List.append_assoc]⟩
    have hgt : ∀ {a : Nat} {b : Option Blk}, M[a]? = some b → ∀ s T, (M2 m' q0 q1 s ++ T)[a]? = some b := fun h s T => by
      obtain ⟨L, e⟩ := hH s
      rw [e]; exact get_old _ (get_old _ h)
    have zA : ∀ s T, (M2 m' q0 q1 s ++ T)[M.length + 0]? = some (some { cells := [.slice (some ⟨q0, 0, none⟩) (total w h) (total w h), .slice (some ⟨q1, 0, none⟩) (total w h) (total w h)] }) := fun s T => get_old _ (by rw [M2.ne n0 n1]; exact z4)
    have x0 : ∀ s T, (M2 m' q0 q1 s ++ T)[q0]? = some (some { cells := iv s.1 }) := fun s T => get_old _ (M2.at0 hne j0)
    have x1 : ∀ s T, (M2 m' q0 q1 s ++ T)[q1]? = some (some { cells := iv s.2 }) := fun s T => get_old _ (M2.at1 j1)
    have y0 : ∀ (s : List Int × List Int) (n : Nat) (z : Int) T, (M2 m' q0 q1 s ++ T).set q0 (some { cells := (iv s.1).set n (.int .i64 z) }) = M2 m' q0 q1 (s.1.set n z, s.2) ++ T := fun s n z T => by rw [iv_set]; exact M2.set0 hne j0 _
    have y1 : ∀ (s : List Int × List Int) (n : Nat) (z : Int) T, (M2 m' q0 q1 s ++ T).set q1 (some { cells := (iv s.2).set n (.int .i64 z) }) = M2 m' q0 q1 (s.1, s.2.set n z) ++ T := fun s n z T => by rw [iv_set]; exact M2.set1 j1 _
    have hpc' : ∀ s T r, R4.ok w h r → ACall Tryd.prog 78 #[.slice pa h c1, .slice pb K.length c2, r.rc.v] (M2 m' q0 q1 s ++ T) (Ret (.tuple #[.int .i64 (leafM B K r), .int .i64 (atN B K r K.length)]) (M2 m' q0 q1 s ++ T)) := fun s T r hr => by
      obtain ⟨L, e⟩ := hHm s
      rw [e, List.append_assoc]
      exact hpc (L ++ T) r hr
    obtain ⟨pv, hpv, hrT⟩ : ∃ pv, (k = 0 ∨ ∃ t' u0 u1, k = t' + 1 ∧ c0 = .slice (some ⟨u0, 0, none⟩) (total w h) (total w h) ∧ c1' = .slice (some ⟨u1, 0, none⟩) (total w h) (total w h) ∧ M[u0]? = some (some { cells := iv pv.1 }) ∧ M[u1]? = some (some { cells := iv pv.2 }) ∧ RI2 (leafM B K) w h t' (fun r => r.ok w h) pv) ∧
        rT (leafM B K) w h k = fW (rsstep (leafM B K) w h k pv) w h w ((List.replicate (total w h) 0), (List.replicate (total w h) 0)) := by
      rcases w4 with rfl | ⟨k', u0, u1, rfl, e0, e1, _, _, k0, k1⟩
      · exact ⟨([], []), .inl rfl, rfl⟩
      · exact ⟨rT (leafM B K) w h k', .inr ⟨k', u0, u1, rfl, e0, e1, k0, k1, hTT' k'⟩, rfl⟩
    have hE := hEE k pv (by
      rcases hpv with h0 | ⟨t', _, _, h0, _, _, _, _, h6⟩
      · exact .inl h0
      · exact .inr ⟨t', h0, h6⟩)
    have H0 : RI2 (leafM B K) w h k (done w h 0 0 0 0) ((List.replicate (total w h) 0), (List.replicate (total w h) 0)) := by rw [done_start]; exact RI2.zero
    have hZ : m' = M2 m' q0 q1 ((List.replicate (total w h) 0), (List.replicate (total w h) 0)) ++ [] := by rw [M2.same hne z0 z1, List.append_nil]
    generalize ha15 : M.length + 0 = a15 at *
    (repeat (first | (with_reducible refine AWo.cons ?_) | ((with_reducible refine Step.id ?_); ((with_reducible apply Step.assign); exact rfl; exact rfl)) | (with_reducible refine AWo.nil ?_) | ((with_reducible apply AW.seq)) | ((with_reducible apply Then.n)) | ((with_reducible apply AW.regL)) | ((with_reducible apply AW.block))))
    refine AW.loopW (fun n t' M0 => ∃ i : Nat, n = w - i ∧ i ≤ w ∧ (∃ T, M0 = M2 m' q0 q1 (fW (rsstep (leafM B K) w h k pv) w h i ((List.replicate (total w h) 0), (List.replicate (total w h) 0))) ++ T) ∧ t' = fr [(0, .slice pa h c1), (1, .slice pb K.length c2), (2, .int .i64 (t : Nat)), (8, .int .i64 (w : Nat)), (9, .int .i64 (h : Nat)), (10, .int .i64 (total w h : Nat)), (12, .pointer (some ⟨m.length + 0, 0, none⟩)), (13, .int .i64 bs), (14, .int .i64 (k : Nat)), (15, .pointer (some ⟨a15, 0, none⟩)), (16, .int .i64 (i + 1 : Nat))])
      ⟨_, _, (by repeat (first | exact trivial | (refine And.intro rfl ?_))), 0, rfl, Nat.zero_le _, ⟨[], hZ⟩, rfl⟩ ?_
    rintro n t' M0 ⟨i, rfl, hi, ⟨T, rfl⟩, rfl⟩
    have H1 := hE.fw H0 i hi
    rcases Nat.lt_or_ge i w with hiw | hiw
    · (repeat (first | (with_reducible refine AWo.cons ?_) | ((with_reducible refine Step.id ?_); first | ((with_reducible apply Step.move); exact rfl; exact rfl) | ((with_reducible apply Step.assign); exact rfl; exact rfl) | ((with_reducible apply Step.leq); exact rfl; exact rfl; exact rfl)) | (with_reducible refine AWo.nil ?_) | ((with_reducible apply AW.seq)) | ((with_reducible apply Then.n)) | ((with_reducible apply AW.regL)) | ((with_reducible apply AW.block)) | ((with_reducible apply AW.skip)) | ((with_reducible apply AW.condT); exact rfl; (focus ((simp only [decide_eq_true_eq, decide_eq_false_iff_not, Bool.not_eq_true', Bool.not_eq_false', Bool.not_true, Bool.not_false]; first | assumption | omega))))))
      refine AW.loopW (fun n t' M0 => ∃ j : Nat, n = h - j ∧ j ≤ h ∧ (∃ T, M0 = M2 m' q0 q1 (fH (rsstep (leafM B K) w h k pv) w h (i + 1) j (fW (rsstep (leafM B K) w h k pv) w h i ((List.replicate (total w h) 0), (List.replicate (total w h) 0)))) ++ T) ∧ t' = fr [(0, .slice pa h c1), (1, .slice pb K.length c2), (2, .int .i64 (t : Nat)), (8, .int .i64 (w : Nat)), (9, .int .i64 (h : Nat)), (10, .int .i64 (total w h : Nat)), (12, .pointer (some ⟨m.length + 0, 0, none⟩)), (13, .int .i64 bs), (14, .int .i64 (k : Nat)), (15, .pointer (some ⟨a15, 0, none⟩)), (16, .int .i64 (i + 1 : Nat)), (17, .int .i64 (j + 1 : Nat))])
        ⟨_, _, (by repeat (first | exact trivial | (refine And.intro rfl ?_))), 0, rfl, Nat.zero_le _, ⟨_, rfl⟩, rfl⟩ ?_
      rintro n t' M0 ⟨j, rfl, hj, ⟨T, rfl⟩, rfl⟩
      have H2 := hE.fh hiw H1 j hj
      rcases Nat.lt_or_ge j h with hjh | hjh
      · (repeat (first | (with_reducible refine AWo.cons ?_) | ((with_reducible refine Step.id ?_); first | ((with_reducible apply Step.move); exact rfl; exact rfl) | ((with_reducible apply Step.assign); exact rfl; exact rfl) | ((with_reducible apply Step.leq); exact rfl; exact rfl; exact rfl)) | (with_reducible refine AWo.nil ?_) | ((with_reducible apply AW.seq)) | ((with_reducible apply Then.n)) | ((with_reducible apply AW.regL)) | ((with_reducible apply AW.block)) | ((with_reducible apply AW.skip)) | ((with_reducible apply AW.condT); exact rfl; (focus ((simp only [decide_eq_true_eq, decide_eq_false_iff_not, Bool.not_eq_true', Bool.not_eq_false', Bool.not_true, Bool.not_false]; first | assumption | omega))))))
        refine AW.loopW (fun n t' M0 => ∃ y : Nat, n = (h - j) - y ∧ y ≤ (h - j) ∧ (∃ T, M0 = M2 m' q0 q1 (fY (rsstep (leafM B K) w h k pv) w (i + 1) (j + 1) y (fH (rsstep (leafM B K) w h k pv) w h (i + 1) j (fW (rsstep (leafM B K) w h k pv) w h i ((List.replicate (total w h) 0), (List.replicate (total w h) 0))))) ++ T) ∧ t' = fr [(0, .slice pa h c1), (1, .slice pb K.length c2), (2, .int .i64 (t : Nat)), (8, .int .i64 (w : Nat)), (9, .int .i64 (h : Nat)), (10, .int .i64 (total w h : Nat)), (12, .pointer (some ⟨m.length + 0, 0, none⟩)), (13, .int .i64 bs), (14, .int .i64 (k : Nat)), (15, .pointer (some ⟨a15, 0, none⟩)), (16, .int .i64 (i + 1 : Nat)), (17, .int .i64 (j + 1 : Nat)), (18, .int .i64 (y : Nat))])
          ⟨_, _, (by repeat (first | exact trivial | (refine And.intro rfl ?_))), 0, rfl, Nat.zero_le _, ⟨_, rfl⟩, rfl⟩ ?_
        rintro n t' M0 ⟨y, rfl, hy, ⟨T, rfl⟩, rfl⟩
        have H3 := hE.fy hiw hjh H2 y hy
        have e1 : (y : Int) + ((j + 1 : Nat) : Int) = ((y + (j + 1) : Nat) : Int) := by omega
        rcases Nat.lt_or_ge y (h - j) with hyh | hyh
        · (repeat (first | (with_reducible refine AWo.cons ?_) | ((with_reducible refine Step.id ?_); first | ((with_reducible apply Step.move); exact rfl; exact rfl) | ((with_reducible apply Step.assign); exact rfl; exact rfl) | ((with_reducible apply Step.addE); exact rfl; exact rfl; (focus (assumption)); (focus (omega)); exact rfl) | ((with_reducible apply Step.leq); exact rfl; exact rfl; exact rfl)) | (with_reducible refine AWo.nil ?_) | ((with_reducible apply AW.seq)) | ((with_reducible apply Then.n)) | ((with_reducible apply AW.regL)) | ((with_reducible apply AW.block)) | ((with_reducible apply AW.skip)) | ((with_reducible apply AW.condT); exact rfl; (focus ((simp only [decide_eq_true_eq, decide_eq_false_iff_not, Bool.not_eq_true', Bool.not_eq_false', Bool.not_true, Bool.not_false]; first | assumption | omega))))))
          refine AW.loopW (fun n t' M0 => ∃ x : Nat, n = (w - i) - x ∧ x ≤ (w - i) ∧ (∃ T, M0 = M2 m' q0 q1 (fX (rsstep (leafM B K) w h k pv) y (i + 1) (j + 1) x (fY (rsstep (leafM B K) w h k pv) w (i + 1) (j + 1) y (fH (rsstep (leafM B K) w h k pv) w h (i + 1) j (fW (rsstep (leafM B K) w h k pv) w h i ((List.replicate (total w h) 0), (List.replicate (total w h) 0)))))) ++ T) ∧ t' = fr [(0, .slice pa h c1), (1, .slice pb K.length c2), (2, .int .i64 (t : Nat)), (8, .int .i64 (w : Nat)), (9, .int .i64 (h : Nat)), (10, .int .i64 (total w h : Nat)), (12, .pointer (some ⟨m.length + 0, 0, none⟩)), (13, .int .i64 bs), (14, .int .i64 (k : Nat)), (15, .pointer (some ⟨a15, 0, none⟩)), (16, .int .i64 (i + 1 : Nat)), (17, .int .i64 (j + 1 : Nat)), (18, .int .i64 (y : Nat)), (19, .int .i64 (x : Nat))])
            ⟨_, _, (by repeat (first | exact trivial | (refine And.intro rfl ?_))), 0, rfl, Nat.zero_le _, ⟨_, rfl⟩, rfl⟩ ?_
          rintro n t' M0 ⟨x, rfl, hx, ⟨T, rfl⟩, rfl⟩
          have e2 : (x : Int) + ((i + 1 : Nat) : Int) = ((x + (i + 1) : Nat) : Int) := by omega
          rcases Nat.lt_or_ge x (w - i) with hxw | hxw
          · have H4 := hE.fx hiw hjh (by omega) H3 x (by omega)
            have hr : (R4.mk x y (i + 1) (j + 1)).ok w h := step_ok hiw hjh (by omega) (by omega)
            have hst : fX (rsstep (leafM B K) w h k pv) y (i + 1) (j + 1) (x + 1) (fY (rsstep (leafM B K) w h k pv) w (i + 1) (j + 1) y (fH (rsstep (leafM B K) w h k pv) w h (i + 1) j (fW (rsstep (leafM B K) w h k pv) w h i ((List.replicate (total w h) 0), (List.replicate (total w h) 0))))) = (rsstep (leafM B K) w h k pv) ⟨x, y, i + 1, j + 1⟩ (fX (rsstep (leafM B K) w h k pv) y (i + 1) (j + 1) x (fY (rsstep (leafM B K) w h k pv) w (i + 1) (j + 1) y (fH (rsstep (leafM B K) w h k pv) w h (i + 1) j (fW (rsstep (leafM B K) w h k pv) w h i ((List.replicate (total w h) 0), (List.replicate (total w h) 0)))))) := rfl
            generalize (fX (rsstep (leafM B K) w h k pv) y (i + 1) (j + 1) x (fY (rsstep (leafM B K) w h k pv) w (i + 1) (j + 1) y (fH (rsstep (leafM B K) w h k pv) w h (i + 1) j (fW (rsstep (leafM B K) w h k pv) w h i ((List.replicate (total w h) 0), (List.replicate (total w h) 0)))))) = s at *
            have hsl0 := H4.1.len
            have hsl1 := H4.2.len
            have hF0 := H4.1.fair (fun r hd => hV k true r hd.1)
            have hF1 := H4.2.fair (fun r hd => hV k false r hd.1)
            have hp := fun s T => hpc' s T _ hr
            have hpos' := fun d => len_pos d hr
            have hle := fun d => len_le d (show w ≤ 16 by omega) (show h ≤ 16 by omega) hr
            have hlo := fun d k h1 h2 => lo_ok (d := d) (i := k) hr h1 h2
            have hhi := fun d k h1 h2 => hi_ok (d := d) (i := k) hr h1 h2
            have hat := fun (r' : R4) (h' : r'.ok w h) => at_lt (show w ≤ 16 by omega) (show h ≤ 16 by omega) h'
            have hN := fun M (r' : R4) (h' : r'.ok w h) => place_ok' (m := M) (show w ≤ 16 by omega) (show h ≤ 16 by omega) h'
            have p1 := fun M k => left_ok (m := M) ⟨x, y, i + 1, j + 1⟩ k
            have p2 := fun M k hh => rightp_ok (m := M) ⟨x, y, i + 1, j + 1⟩ (i := k) hh (by simp only; omega)
            have p3 := fun M k => top_ok (m := M) ⟨x, y, i + 1, j + 1⟩ k
            have p4 := fun M k hh => bottom_ok (m := M) ⟨x, y, i + 1, j + 1⟩ (i := k) hh (by simp only; omega)
            have hleaf := hlf ⟨x, y, i + 1, j + 1⟩
            have hg0 : ∀ v ∈ (R4.mk x y (i + 1) (j + 1)).rc.cells, g0 v = true := fun v hv => by
              simp [Rc.cells] at hv
              rcases hv with rfl | rfl | rfl | rfl <;> rfl
            have hatr := hat _ hr
            have hNr := fun M => hN M _ hr
            have hlentrue : (R4.mk x y (i + 1) (j + 1)).len true = i + 1 := rfl
            have hlenfalse : (R4.mk x y (i + 1) (j + 1)).len false = j + 1 := rfl
            change ∀ s T, ACall Tryd.prog 78 #[_, _, .agg (R4.mk x y (i + 1) (j + 1)).rc.cells.toArray] _ _ at hp
            change ∀ M (r' : R4), _ → ACall Tryd.prog 64 #[_, _, .agg r'.rc.cells.toArray] _ _ at hN
            change ∀ M, ACall Tryd.prog 64 #[_, _, .agg (R4.mk x y (i + 1) (j + 1)).rc.cells.toArray] _ _ at hNr
            change ∀ M k, ACall Tryd.prog 74 #[.agg (R4.mk x y (i + 1) (j + 1)).rc.cells.toArray, _] _ (Ret (.agg ((R4.mk x y (i + 1) (j + 1)).lo true k).rc.cells.toArray) _) at p1
            change ∀ M k, _ → ACall Tryd.prog 75 #[.agg (R4.mk x y (i + 1) (j + 1)).rc.cells.toArray, _] _ (Ret (.agg ((R4.mk x y (i + 1) (j + 1)).hi true k).rc.cells.toArray) _) at p2
            change ∀ M k, ACall Tryd.prog 76 #[.agg (R4.mk x y (i + 1) (j + 1)).rc.cells.toArray, _] _ (Ret (.agg ((R4.mk x y (i + 1) (j + 1)).lo false k).rc.cells.toArray) _) at p3
            change ∀ M k, _ → ACall Tryd.prog 77 #[.agg (R4.mk x y (i + 1) (j + 1)).rc.cells.toArray, _] _ (Ret (.agg ((R4.mk x y (i + 1) (j + 1)).hi false k).rc.cells.toArray) _) at p4
            refine AW.rebase ?_
            obtain ⟨s0, s1⟩ := s
            dsimp only at hsl0 hsl1 hF0 hF1
            rw [← hsl0] at hat
            have hX0 := x0 (s0, s1) T
            have hX1 := x1 (s0, s1) T
            have hXA := zA (s0, s1) T
            obtain ⟨XX, hXX⟩ : ∃ XX, M2 m' q0 q1 (s0, s1) ++ T = XX := ⟨_, rfl⟩
            rw [hXX] at hX0 hX1 hXA
            rw [hXX]
            dsimp only at hX0 hX1
            have z150 : ∀ T : AM, Rd (XX ++ T) a15 0 (.slice (some ⟨q0, 0, none⟩) (total w h) (total w h)) := fun T => ⟨_, get_old _ hXA, rfl⟩
            have z151 : ∀ T : AM, Rd (XX ++ T) a15 1 (.slice (some ⟨q1, 0, none⟩) (total w h) (total w h)) := fun T => ⟨_, get_old _ hXA, rfl⟩
            have r20 : ∀ T : AM, RdL (XX ++ (some { cells := (R4.mk x y (i + 1) (j + 1)).rc.cells } :: T)) (XX.length + 0) 0 (R4.mk x y (i + 1) (j + 1)).rc.cells := fun T => RdL.new rfl rfl
            (repeat (first | (with_reducible refine AWo.cons ?_) | ((with_reducible refine Step.id ?_); first | ((with_reducible apply Step.move); exact rfl; exact rfl) | ((with_reducible apply Step.addE); exact rfl; exact rfl; (focus (assumption)); (focus (omega)); exact rfl) | ((with_reducible apply Step.leq); exact rfl; exact rfl; exact rfl) | ((with_reducible apply Step.alloc 0); exact rfl; exact ze23; exact rfl; (focus (first | (simp only [List.nil_append, List.cons_append, List.set_cons_zero, List.set_cons_succ, iv_set, bv_set, iv_rep, bv_rep]; done) | (simp only [List.nil_append, List.cons_append, List.set_cons_zero, List.set_cons_succ, iv_set, bv_set, iv_rep, bv_rep]; rfl) | rfl))) | ((with_reducible apply Step.storeA (k := 0) (n := 4)); exact rfl; exact rfl; exact rfl; exact rfl; (focus (decide +kernel)); exact rfl; (focus (kernel_rfl)); exact rfl; (focus (first | (simp only [List.nil_append, List.cons_append, List.set_cons_zero, List.set_cons_succ, iv_set, bv_set, iv_rep, bv_rep]; done) | (simp only [List.nil_append, List.cons_append, List.set_cons_zero, List.set_cons_succ, iv_set, bv_set, iv_rep, bv_rep]; rfl) | rfl))) | ((with_reducible apply Step.build); exact rfl; exact bl23; exact rfl)) | (with_reducible refine AWo.nil ?_) | ((fail_if_success (with_reducible refine AW.atR (id := 26) ?_)); ((with_reducible apply AW.seq))) | ((with_reducible apply Then.n)) | ((with_reducible apply AW.regL)) | ((with_reducible apply AW.block)) | ((with_reducible apply AW.skip)) | ((with_reducible apply AW.condT); exact rfl; (focus ((simp only [decide_eq_true_eq, decide_eq_false_iff_not, Bool.not_eq_true', Bool.not_eq_false', Bool.not_true, Bool.not_false]; first | assumption | omega))))))
            change AW _ _ _ _ _ (XX ++ [some { cells := (R4.mk x y (i + 1) (j + 1)).rc.cells }]) _
            generalize R4.mk x y (i + 1) (j + 1) = r at *
            generalize hlfe : leafM B K r = lf at *
            generalize hbp : XX.length + 0 = bp at *
            (repeat (first | (with_reducible refine AWo.cons ?_) | ((with_reducible refine Step.id ?_); ((with_reducible apply Step.assign); exact rfl; exact rfl)) | (with_reducible refine AWo.nil ?_) | ((with_reducible apply AW.seq)) | ((with_reducible apply Then.n)) | ((with_reducible apply AW.regL)) | ((with_reducible apply AW.block))))
            refine AW.loopT (fun n t' L => ∃ kk : Nat, n = (i + 1) - kk ∧ kk + 1 ≤ (i + 1) ∧ L = [some { cells := r.rc.cells }] ∧ t' = [(0, .slice pa h c1), (1, .slice pb K.length c2), (2, .int .i64 (t : Nat)), (8, .int .i64 (w : Nat)), (9, .int .i64 (h : Nat)), (10, .int .i64 (total w h : Nat)), (12, .pointer (some ⟨m.length + 0, 0, none⟩)), (13, .int .i64 bs), (14, .int .i64 (k : Nat)), (15, .pointer (some ⟨a15, 0, none⟩)), (16, .int .i64 (i + 1 : Nat)), (17, .int .i64 (j + 1 : Nat)), (18, .int .i64 (y : Nat)), (19, .int .i64 (x : Nat)), (20, .pointer (some ⟨bp, 0, none⟩)), (22, .int .i64 0), (21, .int .i64 (mxc (fun i => tg w h s0 (r.lo true i) + tg w h s0 (r.hi true i)) kk)), (23, .int .i64 (kk + 1 : Nat))])
              ⟨_, [(0, .slice pa h c1), (1, .slice pb K.length c2), (2, .int .i64 (t : Nat)), (8, .int .i64 (w : Nat)), (9, .int .i64 (h : Nat)), (10, .int .i64 (total w h : Nat)), (12, .pointer (some ⟨m.length + 0, 0, none⟩)), (13, .int .i64 bs), (14, .int .i64 (k : Nat)), (15, .pointer (some ⟨a15, 0, none⟩)), (16, .int .i64 (i + 1 : Nat)), (17, .int .i64 (j + 1 : Nat)), (18, .int .i64 (y : Nat)), (19, .int .i64 (x : Nat)), (20, .pointer (some ⟨bp, 0, none⟩)), (22, .int .i64 0), (21, .int .i64 (0)), (23, .int .i64 (1 : Nat))], _, (Or.inl ⟨rfl, (by repeat (first | exact trivial | (refine And.intro rfl ?_)))⟩), 0, rfl, by omega, rfl, rfl⟩ ?_
            rintro n t' L ⟨kk, rfl, hk1, rfl, rfl⟩
            rcases Nat.lt_or_ge (kk + 1) (i + 1) with hkl | hkl
            · have o1 := hlo true (kk + 1) (by omega) (by omega)
              have o2 := hhi true (kk + 1) (by omega) (by omega)
              have v1 := hat _ o1
              have v2 := hat _ o2
              have n1 := fun M => hN M _ o1
              have n2 := fun M => hN M _ o2
              have f1 := hF0 ((r.lo true (kk + 1)).at w h)
              have f2 := hF0 ((r.hi true (kk + 1)).at w h)
              have hP1 := fun M => p1 M (kk + 1)
              have hP2 := fun M => p2 M (kk + 1) (by omega)
              have d1 : ∀ T : AM, Rd (XX ++ T) q0 ((r.lo true (kk + 1)).at w h) (.int .i64 (s0.getD ((r.lo true (kk + 1)).at w h) 0)) := fun T => rd_iv (get_old _ hX0) rfl v1
              have d2 : ∀ T : AM, Rd (XX ++ T) q0 ((r.hi true (kk + 1)).at w h) (.int .i64 (s0.getD ((r.hi true (kk + 1)).at w h) 0)) := fun T => rd_iv (get_old _ hX0) rfl v2
              have hmx : mxc (fun i => tg w h s0 (r.lo true i) + tg w h s0 (r.hi true i)) (kk + 1) = max (mxc (fun i => tg w h s0 (r.lo true i) + tg w h s0 (r.hi true i)) kk) (s0.getD ((r.lo true (kk + 1)).at w h) 0 + s0.getD ((r.hi true (kk + 1)).at w h) 0) := rfl
              rw [hsl0] at v1 v2
              generalize mxc (fun i => tg w h s0 (r.lo true i) + tg w h s0 (r.hi true i)) kk = X at *
              generalize (r.lo true (kk + 1)).at w h = s1' at *
              generalize (r.hi true (kk + 1)).at w h = s2' at *
              generalize (r.lo true (kk + 1)).rc = g1 at *
              generalize (r.hi true (kk + 1)).rc = g2 at *
              (repeat (first | (with_reducible refine AWo.cons ?_) | ((with_reducible refine Step.id ?_); first | ((with_reducible apply Step.move); exact rfl; exact rfl) | ((with_reducible apply Step.lss); exact rfl; exact rfl; exact rfl)) | (with_reducible refine AWo.nil ?_) | ((with_reducible apply AW.seq)) | ((with_reducible apply Then.n)) | ((fail_if_success (with_reducible refine AW.atL (id := 30) ?_)); ((with_reducible apply AW.regL))) | ((with_reducible apply AW.block)) | ((with_reducible apply AW.skip)) | ((with_reducible apply AW.condT); exact rfl; (focus ((simp only [decide_eq_true_eq, decide_eq_false_iff_not, Bool.not_eq_true', Bool.not_eq_false', Bool.not_true, Bool.not_false]; first | assumption | omega))))))
              refine AW.flat fit [(0, .slice pa h c1), (1, .slice pb K.length c2), (2, .int .i64 (t : Nat)), (8, .int .i64 (w : Nat)), (9, .int .i64 (h : Nat)), (10, .int .i64 (total w h : Nat)), (12, .pointer (some ⟨m.length + 0, 0, none⟩)), (13, .int .i64 bs), (14, .int .i64 (k : Nat)), (15, .pointer (some ⟨a15, 0, none⟩)), (16, .int .i64 (i + 1 : Nat)), (17, .int .i64 (j + 1 : Nat)), (18, .int .i64 (y : Nat)), (19, .int .i64 (x : Nat)), (20, .pointer (some ⟨bp, 0, none⟩)), (22, .int .i64 0), (21, .int .i64 (X)), (23, .int .i64 (kk + 1 : Nat))] [(0, .slice pa h c1), (1, .slice pb K.length c2), (2, .int .i64 (t : Nat)), (8, .int .i64 (w : Nat)), (9, .int .i64 (h : Nat)), (10, .int .i64 (total w h : Nat)), (12, .pointer (some ⟨m.length + 0, 0, none⟩)), (13, .int .i64 bs), (14, .int .i64 (k : Nat)), (15, .pointer (some ⟨a15, 0, none⟩)), (16, .int .i64 (i + 1 : Nat)), (17, .int .i64 (j + 1 : Nat)), (18, .int .i64 (y : Nat)), (19, .int .i64 (x : Nat)), (20, .pointer (some ⟨bp, 0, none⟩)), (22, .int .i64 0), (21, .int .i64 (max X (s0.getD s1' 0 + s0.getD s2' 0))), (23, .int .i64 (kk + 1 : Nat))] [0, 1, 2, 8, 9, 10, 12, 13, 14, 15, 16, 17, 18, 19, 20, 22, 21, 23] [[], [], [0], [], [], [], [], [1, 0], [4, 3, 0, 0], [6, 0], [0], [], [0], [], [], [], [], [1, 0, 8], [4, 3, 0, 0], [6, 0], [0], [10, 0], [21, 0], [0, 4, 22, 21, 20, 19, 18, 17, 16, 15, 14, 13, 12, 11, 10, 9, 8, 7, 6, 5, 4, 3, 2, 1, 0]] (by repeat (first | exact trivial | (refine And.intro rfl ?_))) rfl (by decide +kernel) ?_ ?_
              · (repeat (first | ((with_reducible refine Step.id ?_); first | ((with_reducible apply Step.move); exact rfl; exact rfl) | ((with_reducible apply Step.assign); exact rfl; exact rfl) | ((with_reducible apply Step.load); exact rfl; (focus (decide +kernel)); exact rfl; (focus (first | exact d1 _ | exact d2 _ | exact z150 _))) | ((with_reducible apply Step.loadL (n := 4)); exact rfl; (focus (decide +kernel)); (focus (decide +kernel)); exact rfl; (focus (exact r20 _)); exact rfl; exact rfl) | ((with_reducible apply Step.ix1z); exact rfl; (focus (exact Sl.mk (by omega))); exact rfl; (focus (decide +kernel)); exact rfl; (focus (omega))) | ((with_reducible apply Step.ixA (s := 1) (n := 2) (k := 0)); exact rfl; exact rfl; (focus (kernel_rfl)); exact rfl; (focus (omega))) | ((with_reducible apply Step.add); exact rfl; exact rfl; (focus (omega)); exact rfl) | ((with_reducible apply Step.max); exact rfl; exact rfl; exact rfl) | ((with_reducible apply Step.callR fit); exact rfl; exact Tryd.func74; exact rfl; exact rfl; exact (hP1 _)) | ((with_reducible apply Step.callR fit); exact rfl; exact Tryd.func75; exact rfl; exact rfl; exact (hP2 _)) | ((with_reducible apply Step.callR fit); exact rfl; exact Tryd.func64; exact rfl; exact rfl; exact (n1 _)) | ((with_reducible apply Step.callR fit); exact rfl; exact Tryd.func64; exact rfl; exact rfl; exact (n2 _))) | (apply AWf.cons; exact rfl) | exact ⟨put_same _ _ _, rfl⟩ | ((with_reducible apply AWf.nil))))
                exact (by repeat (first | exact trivial | (refine And.intro rfl ?_)))
              intro t2 ht2
              refine InBlk.n ?_
              refine Then.n ?_
              refine AW.weak ht2 ?_
              (repeat (first | (with_reducible refine AWo.cons ?_) | ((with_reducible refine Step.id ?_); first | ((with_reducible apply Step.move); exact rfl; exact rfl) | ((with_reducible apply Step.assign); exact rfl; exact rfl) | ((with_reducible apply Step.add); exact rfl; exact rfl; (focus (omega)); exact rfl)) | (with_reducible refine AWo.nil ?_) | ((with_reducible apply Then.n)) | ((with_reducible apply AW.regL))))
              exact ⟨_, [(0, .slice pa h c1), (1, .slice pb K.length c2), (2, .int .i64 (t : Nat)), (8, .int .i64 (w : Nat)), (9, .int .i64 (h : Nat)), (10, .int .i64 (total w h : Nat)), (12, .pointer (some ⟨m.length + 0, 0, none⟩)), (13, .int .i64 bs), (14, .int .i64 (k : Nat)), (15, .pointer (some ⟨a15, 0, none⟩)), (16, .int .i64 (i + 1 : Nat)), (17, .int .i64 (j + 1 : Nat)), (18, .int .i64 (y : Nat)), (19, .int .i64 (x : Nat)), (20, .pointer (some ⟨bp, 0, none⟩)), (22, .int .i64 0), (21, .int .i64 (max X (s0.getD s1' 0 + s0.getD s2' 0))), (23, .int .i64 (kk + 1 + 1 : Nat))], _, by omega, (Or.inl ⟨rfl, (by repeat (first | exact trivial | (refine And.intro rfl ?_)))⟩), kk + 1, rfl, by omega, rfl, by rw [hmx]⟩
            have hktrue : kk = (i + 1) - 1 := by omega
            rw [hktrue]
            have hcuttrue : mxc (fun i => tg w h s0 (r.lo true i) + tg w h s0 (r.hi true i)) ((i + 1) - 1) = cutM (tg w h s0) r true := by unfold cutM; rw [hlentrue]
            rw [hcuttrue]
            clear hkl hk1 hktrue
            generalize hca : cutM (tg w h s0) r true = ca at *
            rw [hsl0, ← hsl1] at hat
            (repeat (first | (with_reducible refine AWo.cons ?_) | ((with_reducible refine Step.id ?_); first | ((with_reducible apply Step.move); exact rfl; exact rfl) | ((with_reducible apply Step.assign); exact rfl; exact rfl) | ((with_reducible apply Step.lss); exact rfl; exact rfl; exact rfl)) | (with_reducible refine AWo.nil ?_) | ((with_reducible apply AW.seq)) | ((with_reducible apply Then.n)) | ((with_reducible apply AW.regL)) | ((with_reducible apply AW.block)) | ((with_reducible apply AW.exit)) | ((with_reducible apply InBlk.hit)) | ((with_reducible apply Then.e)) | ((with_reducible apply AW.condF); exact rfl; (focus ((simp only [decide_eq_true_eq, decide_eq_false_iff_not, Bool.not_eq_true', Bool.not_eq_false', Bool.not_true, Bool.not_false]; first | assumption | omega))))))
            refine AW.loopT (fun n t' L => ∃ kk : Nat, n = (j + 1) - kk ∧ kk + 1 ≤ (j + 1) ∧ L = [some { cells := r.rc.cells }] ∧ t' = [(0, .slice pa h c1), (1, .slice pb K.length c2), (2, .int .i64 (t : Nat)), (8, .int .i64 (w : Nat)), (9, .int .i64 (h : Nat)), (10, .int .i64 (total w h : Nat)), (12, .pointer (some ⟨m.length + 0, 0, none⟩)), (13, .int .i64 bs), (14, .int .i64 (k : Nat)), (15, .pointer (some ⟨a15, 0, none⟩)), (16, .int .i64 (i + 1 : Nat)), (17, .int .i64 (j + 1 : Nat)), (18, .int .i64 (y : Nat)), (19, .int .i64 (x : Nat)), (20, .pointer (some ⟨bp, 0, none⟩)), (21, .int .i64 ca), (22, .int .i64 (mxc (fun i => tg w h s1 (r.lo false i) + tg w h s1 (r.hi false i)) kk)), (24, .int .i64 (kk + 1 : Nat))])
              ⟨_, [(0, .slice pa h c1), (1, .slice pb K.length c2), (2, .int .i64 (t : Nat)), (8, .int .i64 (w : Nat)), (9, .int .i64 (h : Nat)), (10, .int .i64 (total w h : Nat)), (12, .pointer (some ⟨m.length + 0, 0, none⟩)), (13, .int .i64 bs), (14, .int .i64 (k : Nat)), (15, .pointer (some ⟨a15, 0, none⟩)), (16, .int .i64 (i + 1 : Nat)), (17, .int .i64 (j + 1 : Nat)), (18, .int .i64 (y : Nat)), (19, .int .i64 (x : Nat)), (20, .pointer (some ⟨bp, 0, none⟩)), (21, .int .i64 ca), (22, .int .i64 (0)), (24, .int .i64 (1 : Nat))], _, (Or.inl ⟨rfl, (by repeat (first | exact trivial | (refine And.intro rfl ?_)))⟩), 0, rfl, by omega, rfl, rfl⟩ ?_
            rintro n t' L ⟨kk, rfl, hk1, rfl, rfl⟩
            rcases Nat.lt_or_ge (kk + 1) (j + 1) with hkl | hkl
            · have o1 := hlo false (kk + 1) (by omega) (by omega)
              have o2 := hhi false (kk + 1) (by omega) (by omega)
              have v1 := hat _ o1
              have v2 := hat _ o2
              have n1 := fun M => hN M _ o1
              have n2 := fun M => hN M _ o2
              have f1 := hF1 ((r.lo false (kk + 1)).at w h)
              have f2 := hF1 ((r.hi false (kk + 1)).at w h)
              have hP1 := fun M => p3 M (kk + 1)
              have hP2 := fun M => p4 M (kk + 1) (by omega)
              have d1 : ∀ T : AM, Rd (XX ++ T) q1 ((r.lo false (kk + 1)).at w h) (.int .i64 (s1.getD ((r.lo false (kk + 1)).at w h) 0)) := fun T => rd_iv (get_old _ hX1) rfl v1
              have d2 : ∀ T : AM, Rd (XX ++ T) q1 ((r.hi false (kk + 1)).at w h) (.int .i64 (s1.getD ((r.hi false (kk + 1)).at w h) 0)) := fun T => rd_iv (get_old _ hX1) rfl v2
              have hmx : mxc (fun i => tg w h s1 (r.lo false i) + tg w h s1 (r.hi false i)) (kk + 1) = max (mxc (fun i => tg w h s1 (r.lo false i) + tg w h s1 (r.hi false i)) kk) (s1.getD ((r.lo false (kk + 1)).at w h) 0 + s1.getD ((r.hi false (kk + 1)).at w h) 0) := rfl
              rw [hsl1] at v1 v2
              generalize mxc (fun i => tg w h s1 (r.lo false i) + tg w h s1 (r.hi false i)) kk = X at *
              generalize (r.lo false (kk + 1)).at w h = s1' at *
              generalize (r.hi false (kk + 1)).at w h = s2' at *
              generalize (r.lo false (kk + 1)).rc = g1 at *
              generalize (r.hi false (kk + 1)).rc = g2 at *
              (repeat (first | (with_reducible refine AWo.cons ?_) | ((with_reducible refine Step.id ?_); first | ((with_reducible apply Step.move); exact rfl; exact rfl) | ((with_reducible apply Step.lss); exact rfl; exact rfl; exact rfl)) | (with_reducible refine AWo.nil ?_) | ((with_reducible apply AW.seq)) | ((with_reducible apply Then.n)) | ((fail_if_success (with_reducible refine AW.atL (id := 34) ?_)); ((with_reducible apply AW.regL))) | ((with_reducible apply AW.block)) | ((with_reducible apply AW.skip)) | ((with_reducible apply AW.condT); exact rfl; (focus ((simp only [decide_eq_true_eq, decide_eq_false_iff_not, Bool.not_eq_true', Bool.not_eq_false', Bool.not_true, Bool.not_false]; first | assumption | omega))))))
              refine AW.flat fit [(0, .slice pa h c1), (1, .slice pb K.length c2), (2, .int .i64 (t : Nat)), (8, .int .i64 (w : Nat)), (9, .int .i64 (h : Nat)), (10, .int .i64 (total w h : Nat)), (12, .pointer (some ⟨m.length + 0, 0, none⟩)), (13, .int .i64 bs), (14, .int .i64 (k : Nat)), (15, .pointer (some ⟨a15, 0, none⟩)), (16, .int .i64 (i + 1 : Nat)), (17, .int .i64 (j + 1 : Nat)), (18, .int .i64 (y : Nat)), (19, .int .i64 (x : Nat)), (20, .pointer (some ⟨bp, 0, none⟩)), (21, .int .i64 ca), (22, .int .i64 (X)), (24, .int .i64 (kk + 1 : Nat))] [(0, .slice pa h c1), (1, .slice pb K.length c2), (2, .int .i64 (t : Nat)), (8, .int .i64 (w : Nat)), (9, .int .i64 (h : Nat)), (10, .int .i64 (total w h : Nat)), (12, .pointer (some ⟨m.length + 0, 0, none⟩)), (13, .int .i64 bs), (14, .int .i64 (k : Nat)), (15, .pointer (some ⟨a15, 0, none⟩)), (16, .int .i64 (i + 1 : Nat)), (17, .int .i64 (j + 1 : Nat)), (18, .int .i64 (y : Nat)), (19, .int .i64 (x : Nat)), (20, .pointer (some ⟨bp, 0, none⟩)), (21, .int .i64 ca), (22, .int .i64 (max X (s1.getD s1' 0 + s1.getD s2' 0))), (24, .int .i64 (kk + 1 : Nat))] [0, 1, 2, 8, 9, 10, 12, 13, 14, 15, 16, 17, 18, 19, 20, 21, 22, 24] [[], [], [0], [], [], [], [], [1, 0], [4, 3, 0, 0], [6, 0], [0], [], [0], [], [], [], [], [1, 0, 8], [4, 3, 0, 0], [6, 0], [0], [10, 0], [21, 0], [0, 4, 22, 21, 20, 19, 18, 17, 16, 15, 14, 13, 12, 11, 10, 9, 8, 7, 6, 5, 4, 3, 2, 1, 0]] (by repeat (first | exact trivial | (refine And.intro rfl ?_))) rfl (by decide +kernel) ?_ ?_
              · (repeat (first | ((with_reducible refine Step.id ?_); first | ((with_reducible apply Step.move); exact rfl; exact rfl) | ((with_reducible apply Step.assign); exact rfl; exact rfl) | ((with_reducible apply Step.load); exact rfl; (focus (decide +kernel)); exact rfl; (focus (first | exact d1 _ | exact d2 _ | exact z151 _))) | ((with_reducible apply Step.loadL (n := 4)); exact rfl; (focus (decide +kernel)); (focus (decide +kernel)); exact rfl; (focus (exact r20 _)); exact rfl; exact rfl) | ((with_reducible apply Step.ix1z); exact rfl; (focus (exact Sl.mk (by omega))); exact rfl; (focus (decide +kernel)); exact rfl; (focus (omega))) | ((with_reducible apply Step.ixA (s := 1) (n := 2) (k := 1)); exact rfl; exact rfl; (focus (kernel_rfl)); exact rfl; (focus (omega))) | ((with_reducible apply Step.add); exact rfl; exact rfl; (focus (omega)); exact rfl) | ((with_reducible apply Step.max); exact rfl; exact rfl; exact rfl) | ((with_reducible apply Step.callR fit); exact rfl; exact Tryd.func76; exact rfl; exact rfl; exact (hP1 _)) | ((with_reducible apply Step.callR fit); exact rfl; exact Tryd.func77; exact rfl; exact rfl; exact (hP2 _)) | ((with_reducible apply Step.callR fit); exact rfl; exact Tryd.func64; exact rfl; exact rfl; exact (n1 _)) | ((with_reducible apply Step.callR fit); exact rfl; exact Tryd.func64; exact rfl; exact rfl; exact (n2 _))) | (apply AWf.cons; exact rfl) | exact ⟨put_same _ _ _, rfl⟩ | ((with_reducible apply AWf.nil))))
                exact (by repeat (first | exact trivial | (refine And.intro rfl ?_)))
              intro t2 ht2
              refine InBlk.n ?_
              refine Then.n ?_
              refine AW.weak ht2 ?_
              (repeat (first | (with_reducible refine AWo.cons ?_) | ((with_reducible refine Step.id ?_); first | ((with_reducible apply Step.move); exact rfl; exact rfl) | ((with_reducible apply Step.assign); exact rfl; exact rfl) | ((with_reducible apply Step.add); exact rfl; exact rfl; (focus (omega)); exact rfl)) | (with_reducible refine AWo.nil ?_) | ((with_reducible apply Then.n)) | ((with_reducible apply AW.regL))))
              exact ⟨_, [(0, .slice pa h c1), (1, .slice pb K.length c2), (2, .int .i64 (t : Nat)), (8, .int .i64 (w : Nat)), (9, .int .i64 (h : Nat)), (10, .int .i64 (total w h : Nat)), (12, .pointer (some ⟨m.length + 0, 0, none⟩)), (13, .int .i64 bs), (14, .int .i64 (k : Nat)), (15, .pointer (some ⟨a15, 0, none⟩)), (16, .int .i64 (i + 1 : Nat)), (17, .int .i64 (j + 1 : Nat)), (18, .int .i64 (y : Nat)), (19, .int .i64 (x : Nat)), (20, .pointer (some ⟨bp, 0, none⟩)), (21, .int .i64 ca), (22, .int .i64 (max X (s1.getD s1' 0 + s1.getD s2' 0))), (24, .int .i64 (kk + 1 + 1 : Nat))], _, by omega, (Or.inl ⟨rfl, (by repeat (first | exact trivial | (refine And.intro rfl ?_)))⟩), kk + 1, rfl, by omega, rfl, by rw [hmx]⟩
            have hkfalse : kk = (j + 1) - 1 := by omega
            rw [hkfalse]
            have hcutfalse : mxc (fun i => tg w h s1 (r.lo false i) + tg w h s1 (r.hi false i)) ((j + 1) - 1) = cutM (tg w h s1) r false := by unfold cutM; rw [hlenfalse]
            rw [hcutfalse]
            clear hkl hk1 hkfalse
            generalize hcb : cutM (tg w h s1) r false = cb at *
            have rr := r20 []
            rw [← hXX, List.append_assoc] at rr ⊢
            generalize hT1 : T ++ [some { cells := r.rc.cells }] = T1 at *
            have k0 : ∀ s, Rd (M2 m' q0 q1 s ++ T1) a15 0 (.slice (some ⟨q0, 0, none⟩) (total w h) (total w h)) := fun s => ⟨_, zA s T1, rfl⟩
            have k1 : ∀ s, Rd (M2 m' q0 q1 s ++ T1) a15 1 (.slice (some ⟨q1, 0, none⟩) (total w h) (total w h)) := fun s => ⟨_, zA s T1, rfl⟩
            have w0 : ∀ v w', (M2 m' q0 q1 (v, w') ++ T1)[q0]? = some (some { cells := iv v }) := fun v w' => x0 (v, w') T1
            have w1 : ∀ v w', (M2 m' q0 q1 (v, w') ++ T1)[q1]? = some (some { cells := iv w' }) := fun v w' => x1 (v, w') T1
            have u0 : ∀ (v w' : List Int) (n : Nat) (z : Int), (M2 m' q0 q1 (v, w') ++ T1).set q0 (some { cells := (iv v).set n (.int .i64 z) }) = M2 m' q0 q1 (v.set n z, w') ++ T1 := fun v w' n z => y0 (v, w') n z T1
            have u1 : ∀ (v w' : List Int) (n : Nat) (z : Int), (M2 m' q0 q1 (v, w') ++ T1).set q1 (some { cells := (iv w').set n (.int .i64 z) }) = M2 m' q0 q1 (v, w'.set n z) ++ T1 := fun v w' n z => y1 (v, w') n z T1
            generalize hn : r.at w h = n at *
            have hn0 : n < s0.length := by omega
            have hn1 : n < s1.length := by omega
            clear hX0 hX1 hXA z150 z151 r20 hXX hF0 hF1 hlo hhi hat hN p1 p2 p3 p4 hpos' hle
            have hnt : n < total w h := by omega
            (repeat (first | (with_reducible refine AWo.cons ?_) | ((with_reducible refine Step.id ?_); first | ((with_reducible apply Step.move); exact rfl; exact rfl) | ((with_reducible apply Step.assign); exact rfl; exact rfl) | ((with_reducible apply Step.loadL (n := 4)); exact rfl; (focus (decide +kernel)); (focus (decide +kernel)); exact rfl; (focus (assumption)); exact rfl; exact rfl) | ((with_reducible apply Step.lss); exact rfl; exact rfl; exact rfl) | ((with_reducible apply Step.extract); exact rfl; exact rfl; exact rfl) | ((with_reducible apply Step.callR fit); exact rfl; exact Tryd.func78; exact rfl; exact rfl; exact (hp _ _)) | ((with_reducible apply Step.callR fit); exact rfl; exact Tryd.func64; exact rfl; exact rfl; exact (hNr _))) | (with_reducible refine AWo.nil ?_) | ((fail_if_success (with_reducible refine AW.atR (id := 37) ?_)); ((with_reducible apply AW.seq))) | ((with_reducible apply Then.n)) | ((with_reducible apply AW.regL)) | ((with_reducible apply AW.exit)) | ((with_reducible apply InBlk.hit)) | ((with_reducible apply Then.e)) | ((with_reducible apply AW.condF); exact rfl; (focus ((simp only [decide_eq_true_eq, decide_eq_false_iff_not, Bool.not_eq_true', Bool.not_eq_false', Bool.not_true, Bool.not_false]; first | assumption | omega))))))
            refine AW.seq ?_
            refine AW.join (fun t' M0 => M0 = M2 m' q0 q1 (s0.set n (max lf ca), s1.set n (max lf cb)) ++ T1 ∧ All (fun i v => t' i = some v) [(0, .slice pa h c1), (1, .slice pb K.length c2), (2, .int .i64 (t : Nat)), (8, .int .i64 (w : Nat)), (9, .int .i64 (h : Nat)), (10, .int .i64 (total w h : Nat)), (12, .pointer (some ⟨m.length + 0, 0, none⟩)), (13, .int .i64 bs), (14, .int .i64 (k : Nat)), (15, .pointer (some ⟨a15, 0, none⟩)), (16, .int .i64 (i + 1 : Nat)), (17, .int .i64 (j + 1 : Nat)), (18, .int .i64 (y : Nat)), (19, .int .i64 (x : Nat)), (27, .int .i64 (n : Nat))]) ?_ ?_
            · (repeat' (first | ((with_reducible refine Step.id ?_); first | ((with_reducible apply Step.move); exact rfl; exact rfl) | ((with_reducible apply Step.load); exact rfl; (focus (decide +kernel)); exact rfl; (focus (first | exact k0 _ | exact k1 _))) | ((with_reducible apply Step.ix1z); exact rfl; (focus (exact Sl.mk (by omega))); exact rfl; (focus (decide +kernel)); exact rfl; (focus (omega))) | ((with_reducible apply Step.ixA (s := 1) (n := 2) (k := 0)); exact rfl; exact rfl; (focus (kernel_rfl)); exact rfl; (focus (omega))) | ((with_reducible apply Step.ixA (s := 1) (n := 2) (k := 1)); exact rfl; exact rfl; (focus (kernel_rfl)); exact rfl; (focus (omega))) | ((with_reducible apply Step.max); exact rfl; exact rfl; exact rfl)) | ((with_reducible apply AW.drawT fit (T := (.step 0 (.step 1 (.step 2 (.step 3 (.step 5 (.step 6 (.step 7 (.step 8 (.step 9 (.step 10 (.step 11 (.step 12 (.both (.step 4 (.step 13 (.step 14 (.step 15 .done)))) (.step 13 (.step 4 (.step 14 (.step 15 .done))))))))))))))))))); (focus (decide +kernel))) | ((with_reducible apply AWt.step); exact rfl) | refine AWt.both ?_ ?_))
              all_goals first | (((with_reducible apply Step.storeC); exact rfl; exact rfl; exact (w0 _ _); exact rfl; (focus (decide +kernel)); exact rfl; exact rfl; (focus (simp [iv_len]; omega))); rw [u0]) | (((with_reducible apply Step.storeC); exact rfl; exact rfl; exact (w1 _ _); exact rfl; (focus (decide +kernel)); exact rfl; exact rfl; (focus (simp [iv_len]; omega))); rw [u1])
              all_goals (repeat' (first | ((with_reducible refine Step.id ?_); first | ((with_reducible apply Step.load); exact rfl; (focus (decide +kernel)); exact rfl; (focus (exact k1 _))) | ((with_reducible apply Step.ix1z); exact rfl; (focus (exact Sl.mk (by omega))); exact rfl; (focus (decide +kernel)); exact rfl; (focus (omega)))) | ((with_reducible apply AWt.step); exact rfl)))
              all_goals first | (((with_reducible apply Step.storeC); exact rfl; exact rfl; exact (w0 _ _); exact rfl; (focus (decide +kernel)); exact rfl; exact rfl; (focus (simp [iv_len]; omega))); rw [u0]) | (((with_reducible apply Step.storeC); exact rfl; exact rfl; exact (w1 _ _); exact rfl; (focus (decide +kernel)); exact rfl; exact rfl; (focus (simp [iv_len]; omega))); rw [u1])
              all_goals (repeat' (first | ((with_reducible apply Then.n)) | ((with_reducible apply AWt.done))))
              all_goals exact ⟨rfl, (by repeat (first | exact trivial | (refine And.intro rfl ?_)))⟩
            rintro t' M0 ⟨rfl, hsl⟩
            refine AW.weak (fr_all hsl) ?_
            clear hsl rr hp
            rcases hpv with hk0 | ⟨t', v0, v1, hk1, rfl, rfl, g0, g1, h6⟩
            · have ee : (rsstep (leafM B K) w h k pv) r (s0, s1) = (s0.set n (max lf ca), s1.set n (max lf cb)) := by
                have e0 : max (max lf ca) 0 = max lf ca := by omega
                have e1 : max (max lf cb) 0 = max lf cb := by omega
                unfold rsstep rnstep pcR
                rw [if_pos hk0, if_pos hk0, hlfe, hn, hca, hcb, e0, e1]
              rw [ee] at hst
              (repeat (first | (with_reducible refine AWo.cons ?_) | ((with_reducible refine Step.id ?_); first | ((with_reducible apply Step.move); exact rfl; exact rfl) | ((with_reducible apply Step.assign); exact rfl; exact rfl) | ((with_reducible apply Step.add); exact rfl; exact rfl; (focus (omega)); exact rfl) | ((with_reducible apply Step.gtr); exact rfl; exact rfl; exact rfl)) | (with_reducible refine AWo.nil ?_) | ((with_reducible apply AW.seq)) | ((with_reducible apply Then.n)) | ((with_reducible apply AW.regL)) | ((with_reducible apply InBlk.n)) | ((with_reducible apply AW.skip)) | ((with_reducible apply AW.condF); exact rfl; (focus ((simp only [decide_eq_true_eq, decide_eq_false_iff_not, Bool.not_eq_true', Bool.not_eq_false', Bool.not_true, Bool.not_false]; first | assumption | omega))))))
              exact ⟨_, [(0, .slice pa h c1), (1, .slice pb K.length c2), (2, .int .i64 (t : Nat)), (8, .int .i64 (w : Nat)), (9, .int .i64 (h : Nat)), (10, .int .i64 (total w h : Nat)), (12, .pointer (some ⟨m.length + 0, 0, none⟩)), (13, .int .i64 bs), (14, .int .i64 (k : Nat)), (15, .pointer (some ⟨a15, 0, none⟩)), (16, .int .i64 (i + 1 : Nat)), (17, .int .i64 (j + 1 : Nat)), (18, .int .i64 (y : Nat)), (19, .int .i64 (x + 1 : Nat))], by omega, (by repeat (first | exact trivial | (refine And.intro rfl ?_))), x + 1, rfl, by omega, ⟨T1, by rw [hst]⟩, rfl⟩
            · have a0 : ∀ s, Rd (M2 m' q0 q1 s ++ T1) (m.length + 0) 0 _ := fun s => ⟨_, hgt w3 s T1, rfl⟩
              have a1 : ∀ s, Rd (M2 m' q0 q1 s ++ T1) (m.length + 0) 1 _ := fun s => ⟨_, hgt w3 s T1, rfl⟩
              have hpl : pv.1.length = total w h ∧ pv.2.length = total w h := ⟨h6.1.len, h6.2.len⟩
              have f0 : ∀ s, Rd (M2 m' q0 q1 s ++ T1) v0 n (.int .i64 (pv.1.getD n 0)) := fun s => rd_iv (hgt g0 s T1) rfl (by omega)
              have f1 : ∀ s, Rd (M2 m' q0 q1 s ++ T1) v1 n (.int .i64 (pv.2.getD n 0)) := fun s => rd_iv (hgt g1 s T1) rfl (by omega)
              have i0 : ∀ v w', n < v.length → Rd (M2 m' q0 q1 (v, w') ++ T1) q0 n (.int .i64 (v.getD n 0)) := fun v w' hv => rd_iv (w0 v w') rfl hv
              have i1 : ∀ v w', n < w'.length → Rd (M2 m' q0 q1 (v, w') ++ T1) q1 n (.int .i64 (w'.getD n 0)) := fun v w' hv => rd_iv (w1 v w') rfl hv
              have ee : (rsstep (leafM B K) w h k pv) r (s0, s1) = (s0.set n (max (max lf ca) (pv.2.getD n 0)), s1.set n (max (max lf cb) (pv.1.getD n 0))) := by
                unfold rsstep rnstep pcR tg
                rw [if_neg (by omega), if_neg (by omega), hlfe, hn]
                show (s0.set n (max (max lf (cutM (tg w h s0) r true)) _), s1.set n (max (max lf (cutM (tg w h s1) r false)) _)) = _
                rw [hca, hcb]
              rw [ee] at hst
              have ec0 : (s0.set n (max lf ca)).set n (max ((s0.set n (max lf ca)).getD n 0) (pv.2.getD n 0)) = s0.set n (max (max lf ca) (pv.2.getD n 0)) := by rw [List.set_set, setD hn0]
              have ec1 : (s1.set n (max lf cb)).set n (max ((s1.set n (max lf cb)).getD n 0) (pv.1.getD n 0)) = s1.set n (max (max lf cb) (pv.1.getD n 0)) := by rw [List.set_set, setD hn1]
              have hnt : n < total w h := by omega
              have hk0' : 0 < k := by omega
              try clear hbu
              try clear hBU
              try clear hTS
              try clear hTT'
              try clear hTT
              try clear hEE
              try clear hpos
              try clear hlf
              try clear hR
              try clear hpc
              try clear hV
              try clear H0
              try clear H1
              try clear H2
              try clear H3
              try clear H4
              try clear hE
              try clear hrT
              try clear hpc'
              try clear hlfe
              try clear hca
              try clear hcb
              try clear hn
              try clear e1
              try clear e2
              try clear hbs
              try clear hbst
              try clear hleaf
              try clear hlentrue
              try clear hlenfalse
              try clear hcuttrue
              try clear hcutfalse
              try clear hkt
              try clear hk
              try clear hnW
              try clear hatW
              try clear nnW
              try clear hml
              try clear hM'
              try clear hH
              try clear hHm
              try clear zA
              try clear hmN
              try clear hML
              try clear w3
              try clear w4
              try clear b0
              try clear b1
              try clear hne
              try clear j0
              try clear j1
              try clear z0
              try clear z1
              try clear z4
              try clear n0
              try clear n1
              try clear x0
              try clear x1
              try clear y0
              try clear y1
              try clear hZ
              try clear ha15
              try clear hbp
              try clear hT1
              try clear hNr
              try clear hg0
              try clear hr
              try clear ee
              try clear g0
              try clear g1
              try clear h6
              try clear hgt
              try clear hG
              try clear hgb
              try clear hb0
              try clear hok
              try clear rd1
              try clear r0
              try clear sl1
              try clear sl2
              try clear la1
              try clear la2
              try clear hMN
              try clear hw
              try clear hh
              try clear hw'
              try clear hh'
              try clear hm'
              try clear ht
              try clear hg
              (repeat (first | (with_reducible refine AWo.cons ?_) | ((with_reducible refine Step.id ?_); first | ((with_reducible apply Step.move); exact rfl; exact rfl) | ((with_reducible apply Step.gtr); exact rfl; exact rfl; exact rfl)) | (with_reducible refine AWo.nil ?_) | ((with_reducible apply AW.seq)) | ((with_reducible apply Then.n)) | ((fail_if_success (with_reducible refine AW.atL (id := 39) ?_)); ((with_reducible apply AW.regL))) | ((with_reducible apply AW.condT); exact rfl; (focus ((simp only [decide_eq_true_eq, decide_eq_false_iff_not, Bool.not_eq_true', Bool.not_eq_false', Bool.not_true, Bool.not_false]; first | assumption | omega))))))
              refine AW.via [(0, .slice pa h c1), (1, .slice pb K.length c2), (2, .int .i64 (t : Nat)), (8, .int .i64 (w : Nat)), (9, .int .i64 (h : Nat)), (10, .int .i64 (total w h : Nat)), (12, .pointer (some ⟨m.length + 0, 0, none⟩)), (13, .int .i64 bs), (14, .int .i64 (k : Nat)), (15, .pointer (some ⟨a15, 0, none⟩)), (16, .int .i64 (i + 1 : Nat)), (17, .int .i64 (j + 1 : Nat)), (18, .int .i64 (y : Nat)), (19, .int .i64 (x : Nat)), (27, .int .i64 (n : Nat))] (M2 m' q0 q1 ((s0.set n (max lf ca)).set n (max ((s0.set n (max lf ca)).getD n 0) (pv.2.getD n 0)), (s1.set n (max lf cb)).set n (max ((s1.set n (max lf cb)).getD n 0) (pv.1.getD n 0))) ++ T1) ?_ ?_
              · (repeat' (first | ((with_reducible refine Step.id ?_); first | ((with_reducible apply Step.move); exact rfl; exact rfl) | ((with_reducible apply Step.load); exact rfl; (focus (decide +kernel)); exact rfl; (focus (first | exact k0 _ | exact k1 _ | exact a0 _ | exact a1 _ | exact f0 _ | exact f1 _ | exact i0 _ _ (by simp; omega) | exact i1 _ _ (by simp; omega)))) | ((with_reducible apply Step.ix1z); exact rfl; (focus (exact Sl.mk (by omega))); exact rfl; (focus (decide +kernel)); exact rfl; (focus (omega))) | ((with_reducible apply Step.ixA (s := 1) (n := 2) (k := 0)); exact rfl; exact rfl; (focus (kernel_rfl)); exact rfl; (focus (omega))) | ((with_reducible apply Step.ixA (s := 1) (n := 2) (k := 1)); exact rfl; exact rfl; (focus (kernel_rfl)); exact rfl; (focus (omega))) | ((with_reducible apply Step.max); exact rfl; exact rfl; exact rfl)) | ((with_reducible apply AW.drawT fit (T := (.step 0 (.step 1 (.step 2 (.step 3 (.step 5 (.step 6 (.step 7 (.step 8 (.step 9 (.step 10 (.step 11 (.step 12 (.step 13 (.step 14 (.step 15 (.step 16 (.step 17 (.step 18 (.step 19 (.step 20 (.step 21 (.step 22 (.step 23 (.step 24 (.step 25 (.step 26 (.step 27 (.step 28 (.both (.step 4 (.step 29 (.step 30 (.step 31 .done)))) (.step 29 (.step 4 (.step 30 (.step 31 .done))))))))))))))))))))))))))))))))))); (focus (decide +kernel))) | ((with_reducible apply AWt.step); exact rfl) | refine AWt.both ?_ ?_))
                all_goals first | (((with_reducible apply Step.storeC); exact rfl; exact rfl; exact (w0 _ _); exact rfl; (focus (decide +kernel)); exact rfl; exact rfl; (focus (simp [iv_len]; omega))); rw [u0]) | (((with_reducible apply Step.storeC); exact rfl; exact rfl; exact (w1 _ _); exact rfl; (focus (decide +kernel)); exact rfl; exact rfl; (focus (simp [iv_len]; omega))); rw [u1])
                all_goals (repeat' (first | ((with_reducible refine Step.id ?_); first | ((with_reducible apply Step.load); exact rfl; (focus (decide +kernel)); exact rfl; (focus (exact k1 _))) | ((with_reducible apply Step.ix1z); exact rfl; (focus (exact Sl.mk (by omega))); exact rfl; (focus (decide +kernel)); exact rfl; (focus (omega)))) | ((with_reducible apply AWt.step); exact rfl)))
                all_goals first | (((with_reducible apply Step.storeC); exact rfl; exact rfl; exact (w0 _ _); exact rfl; (focus (decide +kernel)); exact rfl; exact rfl; (focus (simp [iv_len]; omega))); rw [u0]) | (((with_reducible apply Step.storeC); exact rfl; exact rfl; exact (w1 _ _); exact rfl; (focus (decide +kernel)); exact rfl; exact rfl; (focus (simp [iv_len]; omega))); rw [u1])
                all_goals (repeat' (((with_reducible apply AWt.done))))
                all_goals exact ⟨rfl, rfl, (by repeat (first | exact trivial | (refine And.intro rfl ?_)))⟩
              intro t2 ht2
              rw [ec0, ec1]
              refine InBlk.n ?_
              refine Then.n ?_
              refine AW.weak ht2 ?_
              clear ht2
              (repeat (first | (with_reducible refine AWo.cons ?_) | ((with_reducible refine Step.id ?_); first | ((with_reducible apply Step.move); exact rfl; exact rfl) | ((with_reducible apply Step.assign); exact rfl; exact rfl) | ((with_reducible apply Step.add); exact rfl; exact rfl; (focus (omega)); exact rfl)) | (with_reducible refine AWo.nil ?_) | ((with_reducible apply Then.n)) | ((with_reducible apply AW.regL))))
              exact ⟨_, [(0, .slice pa h c1), (1, .slice pb K.length c2), (2, .int .i64 (t : Nat)), (8, .int .i64 (w : Nat)), (9, .int .i64 (h : Nat)), (10, .int .i64 (total w h : Nat)), (12, .pointer (some ⟨m.length + 0, 0, none⟩)), (13, .int .i64 bs), (14, .int .i64 (k : Nat)), (15, .pointer (some ⟨a15, 0, none⟩)), (16, .int .i64 (i + 1 : Nat)), (17, .int .i64 (j + 1 : Nat)), (18, .int .i64 (y : Nat)), (19, .int .i64 (x + 1 : Nat))], by omega, (by repeat (first | exact trivial | (refine And.intro rfl ?_))), x + 1, rfl, by omega, ⟨T1, by rw [hst]⟩, rfl⟩
          · obtain rfl : x = w - i := by omega
            (repeat (first | (with_reducible refine AWo.cons ?_) | ((with_reducible refine Step.id ?_); first | ((with_reducible apply Step.move); exact rfl; exact rfl) | ((with_reducible apply Step.assign); exact rfl; exact rfl) | ((with_reducible apply Step.addE); exact rfl; exact rfl; (focus (assumption)); (focus (omega)); exact rfl) | ((with_reducible apply Step.add); exact rfl; exact rfl; (focus (omega)); exact rfl) | ((with_reducible apply Step.leq); exact rfl; exact rfl; exact rfl)) | (with_reducible refine AWo.nil ?_) | ((with_reducible apply AW.seq)) | ((with_reducible apply Then.n)) | ((with_reducible apply AW.regL)) | ((with_reducible apply AW.exit)) | ((with_reducible apply InBlk.n)) | ((with_reducible apply InBlk.hit)) | ((with_reducible apply Then.e)) | ((with_reducible apply AW.condF); exact rfl; (focus ((simp only [decide_eq_true_eq, decide_eq_false_iff_not, Bool.not_eq_true', Bool.not_eq_false', Bool.not_true, Bool.not_false]; first | assumption | omega))))))
            exact ⟨_, [(0, .slice pa h c1), (1, .slice pb K.length c2), (2, .int .i64 (t : Nat)), (8, .int .i64 (w : Nat)), (9, .int .i64 (h : Nat)), (10, .int .i64 (total w h : Nat)), (12, .pointer (some ⟨m.length + 0, 0, none⟩)), (13, .int .i64 bs), (14, .int .i64 (k : Nat)), (15, .pointer (some ⟨a15, 0, none⟩)), (16, .int .i64 (i + 1 : Nat)), (17, .int .i64 (j + 1 : Nat)), (18, .int .i64 (y + 1 : Nat))], by omega, (by repeat (first | exact trivial | (refine And.intro rfl ?_))), y + 1, rfl, by omega, ⟨T, by rw [fY, show w + 1 - (i + 1) = w - i by omega]⟩, rfl⟩
        · obtain rfl : y = h - j := by omega
          (repeat (first | (with_reducible refine AWo.cons ?_) | ((with_reducible refine Step.id ?_); first | ((with_reducible apply Step.move); exact rfl; exact rfl) | ((with_reducible apply Step.assign); exact rfl; exact rfl) | ((with_reducible apply Step.addE); exact rfl; exact rfl; (focus (assumption)); (focus (omega)); exact rfl) | ((with_reducible apply Step.add); exact rfl; exact rfl; (focus (omega)); exact rfl) | ((with_reducible apply Step.leq); exact rfl; exact rfl; exact rfl)) | (with_reducible refine AWo.nil ?_) | ((with_reducible apply AW.seq)) | ((with_reducible apply Then.n)) | ((with_reducible apply AW.regL)) | ((with_reducible apply AW.exit)) | ((with_reducible apply InBlk.n)) | ((with_reducible apply InBlk.hit)) | ((with_reducible apply Then.e)) | ((with_reducible apply AW.condF); exact rfl; (focus ((simp only [decide_eq_true_eq, decide_eq_false_iff_not, Bool.not_eq_true', Bool.not_eq_false', Bool.not_true, Bool.not_false]; first | assumption | omega))))))
          exact ⟨_, [(0, .slice pa h c1), (1, .slice pb K.length c2), (2, .int .i64 (t : Nat)), (8, .int .i64 (w : Nat)), (9, .int .i64 (h : Nat)), (10, .int .i64 (total w h : Nat)), (12, .pointer (some ⟨m.length + 0, 0, none⟩)), (13, .int .i64 bs), (14, .int .i64 (k : Nat)), (15, .pointer (some ⟨a15, 0, none⟩)), (16, .int .i64 (i + 1 : Nat)), (17, .int .i64 (j + 1 + 1 : Nat))], by omega, (by repeat (first | exact trivial | (refine And.intro rfl ?_))), j + 1, rfl, by omega, ⟨T, by rw [fH, show h + 1 - (j + 1) = h - j by omega]⟩, rfl⟩
      · obtain rfl : j = h := by omega
        (repeat (first | (with_reducible refine AWo.cons ?_) | ((with_reducible refine Step.id ?_); first | ((with_reducible apply Step.move); exact rfl; exact rfl) | ((with_reducible apply Step.assign); exact rfl; exact rfl) | ((with_reducible apply Step.add); exact rfl; exact rfl; (focus (omega)); exact rfl) | ((with_reducible apply Step.leq); exact rfl; exact rfl; exact rfl)) | (with_reducible refine AWo.nil ?_) | ((with_reducible apply AW.seq)) | ((with_reducible apply Then.n)) | ((with_reducible apply AW.regL)) | ((with_reducible apply AW.exit)) | ((with_reducible apply InBlk.n)) | ((with_reducible apply InBlk.hit)) | ((with_reducible apply Then.e)) | ((with_reducible apply AW.condF); exact rfl; (focus ((simp only [decide_eq_true_eq, decide_eq_false_iff_not, Bool.not_eq_true', Bool.not_eq_false', Bool.not_true, Bool.not_false]; first | assumption | omega))))))
        exact ⟨_, [(0, .slice pa j c1), (1, .slice pb K.length c2), (2, .int .i64 (t : Nat)), (8, .int .i64 (w : Nat)), (9, .int .i64 (j : Nat)), (10, .int .i64 (total w j : Nat)), (12, .pointer (some ⟨m.length + 0, 0, none⟩)), (13, .int .i64 bs), (14, .int .i64 (k : Nat)), (15, .pointer (some ⟨a15, 0, none⟩)), (16, .int .i64 (i + 1 + 1 : Nat))], by omega, (by repeat (first | exact trivial | (refine And.intro rfl ?_))), i + 1, rfl, by omega, ⟨T, rfl⟩, rfl⟩
    · obtain rfl : w = i := by omega
      rw [← hrT]
      have hfin : max (max bs ((rT (leafM B K) w h k).1.getD nW 0)) ((rT (leafM B K) w h k).2.getD nW 0) = bestS (leafM B K) w h (wholeR B) (k + 1) := by rw [Int.max_assoc]; exact hbu
      have hl0 := (hTT' k).1.len
      have hl1 := (hTT' k).2.len
      have hN : ∀ X, ∃ N, (M2 m' q0 q1 (rT (leafM B K) w h k) ++ T).set (m.length + 0) X = m ++ N := fun X => by
        obtain ⟨L, e⟩ := hHm (rT (leafM B K) w h k)
        rw [e, List.append_assoc]
        exact set_high (m0 := m) (N := L ++ T) (a := m.length + 0) (by omega) X
      have hGl : (M2 m' q0 q1 (rT (leafM B K) w h k) ++ T).length = m'.length + T.length := by rw [List.length_append, M2.len]
      have h3 := hgt w3 (rT (leafM B K) w h k) T
      have hq0 := x0 (rT (leafM B K) w h k) T
      have hq1 := x1 (rT (leafM B K) w h k) T
      have hqA := zA (rT (leafM B K) w h k) T
      generalize hG' : M2 m' q0 q1 (rT (leafM B K) w h k) ++ T = G at *
      have r4 : RdL G a15 0 [.slice (some ⟨q0, 0, none⟩) (total w h) (total w h), .slice (some ⟨q1, 0, none⟩) (total w h) (total w h)] := ⟨_, hqA, fun j v hj => by simpa using hj⟩
      have hs0 : ∀ X, (G.set (m.length + 0) X)[q0]? = some (some { cells := iv (rT (leafM B K) w h k).1 }) := fun X => by rw [List.getElem?_set_ne (by omega)]; exact hq0
      have hs1 : ∀ X, (G.set (m.length + 0) X)[q1]? = some (some { cells := iv (rT (leafM B K) w h k).2 }) := fun X => by rw [List.getElem?_set_ne (by omega)]; exact hq1
      have hsA : ∀ X, (G.set (m.length + 0) X)[a15]? = some (some { cells := [.slice (some ⟨q0, 0, none⟩) (total w h) (total w h), .slice (some ⟨q1, 0, none⟩) (total w h) (total w h)] }) := fun X => (by rw [List.getElem?_set_ne (by omega)]; exact hqA)
      have o0 : ∀ X, Rd (G.set (m.length + 0) X) a15 0 (.slice (some ⟨q0, 0, none⟩) (total w h) (total w h)) := fun X => ⟨_, hsA X, rfl⟩
      have o1 : ∀ X, Rd (G.set (m.length + 0) X) a15 1 (.slice (some ⟨q1, 0, none⟩) (total w h) (total w h)) := fun X => ⟨_, hsA X, rfl⟩
      have o2 : ∀ X, Rd (G.set (m.length + 0) X) q0 nW (.int .i64 ((rT (leafM B K) w h k).1.getD nW 0)) := fun X => rd_iv (hs0 X) rfl (by omega)
      have o3 : ∀ X, Rd (G.set (m.length + 0) X) q1 nW (.int .i64 ((rT (leafM B K) w h k).2.getD nW 0)) := fun X => rd_iv (hs1 X) rfl (by omega)
      have hmM : M.length < m'.length := by omega
      (repeat (first | (with_reducible refine AWo.cons ?_) | ((with_reducible refine Step.id ?_); first | ((with_reducible apply Step.move); exact rfl; exact rfl) | ((with_reducible apply Step.loadL (n := 2)); exact rfl; (focus (decide +kernel)); (focus (decide +kernel)); exact rfl; (focus (assumption)); exact rfl; exact rfl) | ((with_reducible apply Step.leq); exact rfl; exact rfl; exact rfl)) | (with_reducible refine AWo.nil ?_) | ((with_reducible apply AW.seq)) | ((with_reducible apply Then.n)) | ((with_reducible apply AW.regL)) | ((with_reducible apply AW.exit)) | ((with_reducible apply InBlk.hit)) | ((with_reducible apply Then.e)) | ((with_reducible apply AW.condF); exact rfl; (focus ((simp only [decide_eq_true_eq, decide_eq_false_iff_not, Bool.not_eq_true', Bool.not_eq_false', Bool.not_true, Bool.not_false]; first | assumption | omega))))))
      ((with_reducible apply Step.storeG (n := 2)); exact rfl; exact rfl; exact h3; exact rfl; (focus (decide +kernel)); exact rfl; (focus (kernel_rfl)); exact rfl)
      (repeat (first | (with_reducible refine AWo.cons ?_) | ((with_reducible refine Step.id ?_); first | ((with_reducible apply Step.move); exact rfl; exact rfl) | ((with_reducible apply Step.assign); exact rfl; exact rfl) | ((with_reducible apply Step.load); exact rfl; (focus (decide +kernel)); exact rfl; (focus (first | exact o0 _ | exact o1 _ | exact o2 _ | exact o3 _))) | ((with_reducible apply Step.ix1z); exact rfl; (focus (exact Sl.mk (by omega))); exact rfl; (focus (decide +kernel)); exact rfl; (focus (omega))) | ((with_reducible apply Step.ixA (s := 1) (n := 2) (k := 0)); exact rfl; exact rfl; (focus (kernel_rfl)); exact rfl; (focus (omega))) | ((with_reducible apply Step.ixA (s := 1) (n := 2) (k := 1)); exact rfl; exact rfl; (focus (kernel_rfl)); exact rfl; (focus (omega))) | ((with_reducible apply Step.callR fit); exact rfl; exact Tryd.func64; exact rfl; exact rfl; exact (nnW _)) | ((with_reducible apply Step.build); exact rfl; exact bl23w; exact rfl)) | (with_reducible refine AWo.nil ?_) | ((with_reducible apply AW.seq)) | ((with_reducible apply Then.n)) | ((with_reducible apply AW.regL)) | ((with_reducible apply AW.drawL fit); (focus (decide +kernel)))))
      ((with_reducible apply Step.max3); exact rfl; exact rfl; exact rfl; exact rfl)
      rw [hfin]
      (repeat (first | (with_reducible refine AWo.cons ?_) | ((with_reducible refine Step.id ?_); first | ((with_reducible apply Step.move); exact rfl; exact rfl) | ((with_reducible apply Step.assign); exact rfl; exact rfl) | ((with_reducible apply Step.add); exact rfl; exact rfl; (focus (omega)); exact rfl)) | (with_reducible refine AWo.nil ?_) | ((with_reducible apply Then.n)) | ((with_reducible apply AW.regL)) | ((with_reducible apply InBlk.n))))
      exact ⟨_, _, by omega, (by repeat (first | exact trivial | (refine And.intro rfl ?_))), k + 1, rfl, by omega, hN _, by rw [List.length_set]; omega, ⟨_, _, List.getElem?_set_self (by omega), .inr ⟨k, q0, q1, rfl, rfl, rfl, by omega, by omega, hs0 _, hs1 _⟩⟩, rfl⟩
  · obtain rfl : k = t + 1 := by omega
    (repeat (first | (with_reducible refine AWo.cons ?_) | ((with_reducible refine Step.id ?_); first | ((with_reducible apply Step.move); exact rfl; exact rfl) | ((with_reducible apply Step.assign); exact rfl; exact rfl) | ((with_reducible apply Step.leq); exact rfl; exact rfl; exact rfl)) | (with_reducible refine AWo.nil ?_) | ((with_reducible apply AW.seq)) | ((with_reducible apply Then.n)) | ((with_reducible apply AW.regL)) | ((with_reducible apply AW.exit)) | ((with_reducible apply InBlk.hit)) | ((with_reducible apply Then.e)) | ((with_reducible apply AW.condF); exact rfl; (focus ((simp only [decide_eq_true_eq, decide_eq_false_iff_not, Bool.not_eq_true', Bool.not_eq_false', Bool.not_true, Bool.not_false]; first | assumption | omega))))))
    (refine AW.ret ?_; (repeat (first | refine Then.r ?_ | refine InBlk.r ?_)))
    exact ⟨_, rfl, rfl, hMN⟩
end Go.Proofs.YtibhgdglbillaaaDoor.Abs
namespace Go.Proofs.YtibhgdglbillaaaDoor.Abs
set_option linter.unusedSimpArgs false
set_option linter.unusedVariables false
open Go.RowKit
open Go.Proofs.YtibhgdglbillaaaDoor.Sim
open Go.Proofs
set_option maxHeartbeats 8000000 in
set_option maxRecDepth 100000 in
theorem CutStrict_ok {m : AM} {sv kv : Value} {B : Brd} {K : List Kd} {t : Int} (hs : Strs m sv B) (hk : Kds m kv K) (hkl : K.length ≤ 9223372036854775807) :
    ACall Tryd.prog 5 #[sv, kv, .int .i64 t] m (Ret (.bool true) m) := by
  have h3 := fun T => of_ok (hk.old T) hkl
  have hG := fun T => RGood_ok (hs.old T) (hk.old T)
  cases hg : goodB B K with
  | false =>
    have hg' : goodB B (K.take 14) = false := by rw [good_take]; exact hg
    rw [hg] at hG
    obtain ⟨A1, O1, sl1, la1, rd1⟩ := id hs
    refine ACall.start Tryd.func5 rfl rfl ?_
    (repeat (first | (with_reducible refine AWo.cons ?_) | ((with_reducible refine Step.id ?_); first | ((with_reducible apply Step.gdT); exact rfl; exact rfl; (focus (rfl))) | ((with_reducible apply Step.gdF); exact rfl; exact rfl; (focus (rfl))) | ((with_reducible apply Step.move); exact rfl; exact rfl) | ((with_reducible apply Step.assign); exact rfl; exact rfl) | ((with_reducible apply Step.eql); exact rfl; exact rfl; exact rfl) | ((with_reducible apply Step.extract); exact rfl; exact rfl; exact rfl) | ((with_reducible apply Step.pickT); exact rfl; exact rfl; exact rfl; exact rfl; (focus (rfl))) | ((with_reducible apply Step.pickF); exact rfl; exact rfl; exact rfl; exact rfl; (focus (rfl))) | ((with_reducible apply Step.callR fit); exact rfl; exact Tryd.func24; exact rfl; exact rfl; exact (hG _)) | ((with_reducible apply Step.callG fit (k := 0)); exact rfl; exact rfl; exact Tryd.func23; exact rfl; exact rfl; exact (h3 _); (focus (first | (simp only [List.nil_append, List.cons_append, List.set_cons_zero, List.set_cons_succ, iv_set, bv_set, iv_rep, bv_rep]; done) | (simp only [List.nil_append, List.cons_append, List.set_cons_zero, List.set_cons_succ, iv_set, bv_set, iv_rep, bv_rep]; rfl) | rfl))) | ((with_reducible apply Step.callR fit); exact rfl; exact Tryd.func28; exact rfl; exact rfl; exact (Strict_no (hs.old _) (kds_at (l := K.take 14) rfl) hg')) | ((with_reducible apply Step.callR fit); exact rfl; exact Tryd.func29; exact rfl; exact rfl; exact (RStrict_no (hs.old _) (hk.old _) (.inl hg))) | ((with_reducible apply Step.callR fit); exact rfl; exact Tryd.func21; exact rfl; exact rfl; exact (awake_ok))) | (with_reducible refine AWo.nil ?_) | ((with_reducible apply AW.seq)) | ((with_reducible apply Then.n)) | ((with_reducible apply AW.regL)) | ((with_reducible apply AW.skip)) | ((with_reducible apply AW.condF); exact rfl; (focus (rfl)))))
    (refine AW.retD (l := [(6, _)]) (by repeat (first | exact trivial | (refine And.intro ⟨rfl, by (exact .bool _)⟩ ?_))) ?_; (repeat (first | refine Then.r ?_ | refine InBlk.r ?_)))
    exact ⟨_, rfl, rfl, rfl⟩
  | true =>
    have et := good_len hg
    rw [et] at h3
    rw [hg] at hG
    have hgb : boardB B = true := by simp only [goodB, Bool.and_eq_true] at hg; exact hg.1
    have hin := good_in hgb
    have hS : ∃ r : Value, (∀ (M : AM) (sv kv : Value) (h1 : Strs M sv B) (h2 : Kds M kv K), ACall Tryd.prog 28 #[sv, kv, .int .i64 t] M (Ret r M)) ∧ (∀ (M : AM) (sv kv : Value) (h1 : Strs M sv B) (h2 : Kds M kv K), ACall Tryd.prog 29 #[sv, kv, .int .i64 t] M (Ret r M)) ∧ ∃ a b, r = .tuple #[.int .i64 a, .int .i64 b] := by
      by_cases ht : t < 0 ∨ 32 < t
      · exact ⟨_, fun M sv kv h1 h2 => Strict_far h1 h2 hg ht, fun M sv kv h1 h2 => RStrict_no h1 h2 (.inr ht), _, _, rfl⟩
      · obtain ⟨n, rfl⟩ := Int.eq_ofNat_of_zero_le (a := t) (by omega)
        exact ⟨_, fun M sv kv h1 h2 => Strict_ok h1 h2 hg (by omega), fun M sv kv h1 h2 => RStrict_ok h1 h2 hg (by omega), _, _, rfl⟩
    obtain ⟨r, hA, hB, x, y, rfl⟩ := hS
    have hb0 : 0 < B.length := hin.1
    obtain ⟨A1, O1, sl1, la1, rd1⟩ := id hs
    have r0 := rd1 0 hb0
    have hbb : 1 ≤ bh B ∧ bh B ≤ 16 ∧ 1 ≤ (rowOf B 0).size ∧ (rowOf B 0).size ≤ 16 := hin
    have hbl : B.length ≤ 16 := hin.2.1
    have ha : 0 ≤ B.length * (rowOf B 0).size ∧ B.length * (rowOf B 0).size ≤ 256 := ⟨Nat.zero_le _, Nat.mul_le_mul hbl hbb.2.2.2⟩
    have e3 : (B.length : Int) * ((rowOf B 0).size : Int) = ((B.length * (rowOf B 0).size : Nat) : Int) := by simp
    clear hgb hbb
    refine ACall.start Tryd.func5 rfl rfl ?_
    by_cases hbig : 64 < B.length * (rowOf B 0).size
    · (repeat (first | (with_reducible refine AWo.cons ?_) | ((with_reducible refine Step.id ?_); first | ((with_reducible apply Step.gdT); exact rfl; exact rfl; (focus (rfl))) | ((with_reducible apply Step.move); exact rfl; exact rfl) | ((with_reducible apply Step.assign); exact rfl; exact rfl) | ((with_reducible apply Step.load); exact rfl; (focus (decide +kernel)); exact rfl; (focus (exact Rd.old _ (by assumption)))) | ((with_reducible apply Step.ix1); exact rfl; (focus (assumption)); exact rfl; (focus (decide +kernel)); exact rfl; (focus (omega))) | ((with_reducible apply Step.lenS); exact rfl; exact un9; exact rfl) | ((with_reducible apply Step.mul); exact rfl; exact rfl; (focus (omega)); exact rfl) | ((with_reducible apply Step.gtr); exact rfl; exact rfl; exact rfl) | ((with_reducible apply Step.len); exact rfl; (focus (assumption)); (focus (decide +kernel)); exact rfl) | ((with_reducible apply Step.pickT); exact rfl; exact rfl; exact rfl; exact rfl; (focus (rfl))) | ((with_reducible apply Step.callR fit); exact rfl; exact Tryd.func24; exact rfl; exact rfl; exact (hG _)) | ((with_reducible apply Step.callR fit); exact rfl; exact Tryd.func21; exact rfl; exact rfl; exact (awake_ok))) | (with_reducible refine AWo.nil ?_) | ((with_reducible apply AW.seq)) | ((with_reducible apply Then.n)) | ((with_reducible apply AW.regL)) | ((with_reducible apply AW.condT); exact rfl; (focus ((simp only [decide_eq_true_eq, decide_eq_false_iff_not, Bool.not_eq_true', Bool.not_eq_false', Bool.not_true, Bool.not_false]; first | assumption | omega))))))
      (refine AW.retD (l := [(6, _)]) (by repeat (first | exact trivial | (refine And.intro ⟨rfl, by (exact .bool _)⟩ ?_))) ?_; (repeat (first | refine Then.r ?_ | refine InBlk.r ?_)))
      exact ⟨_, rfl, rfl, rfl⟩
    · (repeat (first | (with_reducible refine AWo.cons ?_) | ((with_reducible refine Step.id ?_); first | ((with_reducible apply Step.gdT); exact rfl; exact rfl; (focus (first | rfl | (simp; done)))) | ((with_reducible apply Step.move); exact rfl; exact rfl) | ((with_reducible apply Step.assign); exact rfl; exact rfl) | ((with_reducible apply Step.load); exact rfl; (focus (decide +kernel)); exact rfl; (focus (exact Rd.old _ (by assumption)))) | ((with_reducible apply Step.ix1); exact rfl; (focus (assumption)); exact rfl; (focus (decide +kernel)); exact rfl; (focus (omega))) | ((with_reducible apply Step.lenS); exact rfl; exact un9; exact rfl) | ((with_reducible apply Step.mul); exact rfl; exact rfl; (focus (omega)); exact rfl) | ((with_reducible apply Step.gtr); exact rfl; exact rfl; exact rfl) | ((with_reducible apply Step.eql); exact rfl; exact rfl; exact rfl) | ((with_reducible apply Step.len); exact rfl; (focus (assumption)); (focus (decide +kernel)); exact rfl) | ((with_reducible apply Step.extract); exact rfl; exact rfl; exact rfl) | ((with_reducible apply Step.pickT); exact rfl; exact rfl; exact rfl; exact rfl; (focus (first | rfl | (simp; done)))) | ((with_reducible apply Step.callR fit); exact rfl; exact Tryd.func24; exact rfl; exact rfl; exact (hG _)) | ((with_reducible apply Step.callG fit (k := 0)); exact rfl; exact rfl; exact Tryd.func23; exact rfl; exact rfl; exact (h3 _); (focus (first | (simp only [List.nil_append, List.cons_append, List.set_cons_zero, List.set_cons_succ, iv_set, bv_set, iv_rep, bv_rep]; done) | (simp only [List.nil_append, List.cons_append, List.set_cons_zero, List.set_cons_succ, iv_set, bv_set, iv_rep, bv_rep]; rfl) | rfl))) | ((with_reducible apply Step.callR fit); exact rfl; exact Tryd.func28; exact rfl; exact rfl; exact (hA _ _ _ (hs.old _) (kds_at (l := K) rfl))) | ((with_reducible apply Step.callR fit); exact rfl; exact Tryd.func29; exact rfl; exact rfl; exact (hB _ _ _ (hs.old _) (hk.old _))) | ((with_reducible apply Step.callR fit); exact rfl; exact Tryd.func21; exact rfl; exact rfl; exact (awake_ok))) | (with_reducible refine AWo.nil ?_) | ((with_reducible apply AW.seq)) | ((with_reducible apply Then.n)) | ((with_reducible apply AW.regL)) | ((with_reducible apply AW.skip)) | ((with_reducible apply AW.condF); exact rfl; (focus ((simp only [decide_eq_true_eq, decide_eq_false_iff_not, Bool.not_eq_true', Bool.not_eq_false', Bool.not_true, Bool.not_false]; first | assumption | omega))))))
      (refine AW.retD (l := [(6, _)]) (by repeat (first | exact trivial | (refine And.intro ⟨rfl, by (exact .bool _)⟩ ?_))) ?_; (repeat (first | refine Then.r ?_ | refine InBlk.r ?_)))
      exact ⟨_, rfl, rfl, rfl⟩
end Go.Proofs.YtibhgdglbillaaaDoor.Abs
namespace Go.Proofs.YtibhgdglbillaaaDoor.Abs
set_option linter.unusedSimpArgs false
set_option linter.unusedVariables false
open Go.RowKit
open Go.Proofs.YtibhgdglbillaaaDoor.Sim
open Go.ChangeShapes Go.WideShapes Go.Deep
def RelSelf (v : Value) : Prop := ∃ c, v = .agg c ∧ ∀ R, Rel R (.agg c) (.agg c)
def Okarg3 (W : World) (a : AR) : Prop := Okarg W a ∨ RelSelf a.1
theorem top_call3 {P : Program} {f : FuncId} {W : World} (ars : List AR) (h : ∀ a ∈ ars, Okarg3 W a) (hc : ACall P f (mkVs 0 ars).toArray (ars.map mkB) (Ret (.bool true) (ars.map mkB))) :
    Calls P f (ars.map (·.1)).toArray W fun e w' => e = .returned (.bool true) ∧ Below W.heap.size W w' := by
  let R : Pl := fun i => (ars[i]?).bind mkP
  have hm : MRep W.heap.size R (ars.map mkB) W := by
    refine ⟨fun i hi => ?_, fun i b hi => ?_, fun i j b c p q hi hj hb _ _ _ _ => ?_⟩
    · simp only [List.length_map] at hi
      simp [R, List.getElem?_eq_none hi]
    · rw [List.getElem?_map] at hi
      cases ha : ars[i]? with
      | none => rw [ha] at hi; cases hi
      | some a =>
        rw [ha] at hi
        simp only [Option.map_some, Option.some.injEq] at hi
        obtain ⟨v, c⟩ := a
        rcases h _ (List.mem_of_getElem? ha) with (h1 | ⟨bb, o, n, cap, h1, h2, h3, h4, h5⟩) | ⟨l, h1, hl⟩
        · simp only at h1
          cases v with
          | slice x n cap => cases x with
            | none => simp [mkB] at hi
            | some x => simp [g0] at h1
          | _ => simp [mkB] at hi
        · simp only at h1
          subst h1
          simp only [mkB, Option.some.injEq] at hi
          subst hi
          refine ⟨⟨bb, o, cap - n⟩, by simp [R, ha, mkP], h3, ?_⟩
          refine ⟨fun e => by simp at e, fun j x hj => ⟨x, h4 j x hj, g0_rel (h5 x (List.mem_of_getElem? hj))⟩⟩
        · simp only at h1
          subst h1
          simp [mkB] at hi
    · rw [List.getElem?_map] at hi
      cases ha : ars[i]? with
      | none => rw [ha] at hi; cases hi
      | some a =>
        rw [ha] at hi
        simp only [Option.map_some, Option.some.injEq] at hi
        obtain ⟨v, c'⟩ := a
        cases v with
        | slice x n cap => cases x with
          | none => simp [mkB] at hi
          | some x => simp only [mkB, Option.some.injEq] at hi; subst hi; cases hb
        | _ => simp [mkB] at hi
  have hargs : Rels R (mkVs 0 ars).toArray (ars.map (·.1)).toArray := by
    refine ⟨by simp [mkVs_len], fun i hi => ?_⟩
    simp only [List.size_toArray, mkVs_len] at hi
    have ha : ars[i]? = some ars[i] := List.getElem?_eq_getElem hi
    have e1 : (mkVs 0 ars).toArray.getD i undef = mkV i ars[i].1 := by
      simp [mkVs_get, ha]
    have e2 : (ars.map (·.1)).toArray.getD i undef = ars[i].1 := by simp [hi]
    rw [e1, e2]
    generalize ars[i] = a at ha
    obtain ⟨v, c⟩ := a
    rcases h _ (List.mem_of_getElem? ha) with (h1 | ⟨bb, o, n, cap, h1, h2, h3, h4, h5⟩) | ⟨l, h1, hl⟩
    · simp only at h1 ⊢
      cases v with
      | slice x n cap => cases x with
        | none => exact g0_rel h1
        | some x => simp [g0] at h1
      | _ => exact g0_rel h1
    · simp only at h1 ⊢
      subst h1
      have := Rel.slice (R := R) i 0 n n ⟨bb, o, cap - n⟩ (by simp [R, ha, mkP]) (Nat.le_refl _)
      rw [show n + (cap - n) = cap by omega] at this
      simpa [mkV] using this
    · simp only at h1 ⊢
      subst h1
      exact hl R
  refine (hc W.heap.size R W _ (Nat.le_refl _) hm hargs).mono ?_
  rintro e w' ⟨v, v', R', m', rfl, k1, k2, rfl, rfl⟩
  cases k1
  exact ⟨rfl, k2.below hm (Nat.le_refl _)⟩
theorem RelSelf.rect (r : Rc) : RelSelf r.v := ⟨_, rfl, fun R => rel_aggI R [r.x, r.y, r.w, r.h]⟩
theorem RelSelf.kind (k : Kd) : RelSelf k.v := ⟨_, rfl, fun R => .agg _ _ rfl fun i hi => by
  simp at hi
  rcases (show i = 0 ∨ i = 1 ∨ i = 2 ∨ i = 3 ∨ i = 4 by omega) with rfl | rfl | rfl | rfl | rfl
  · exact .int _ _
  · exact .int _ _
  · exact .int _ _
  · exact .int _ _
  · exact .bool _⟩
def sv (l : List ByteArray) : List Value := l.map .string
def kb (y : List Int × Bool) : List Value := iv y.1 ++ [.bool y.2]
theorem g0_kb (y : List Int × Bool) : ∀ v ∈ kb y, g0 v = true := fun v hv => by
  rcases List.mem_append.1 hv with h | h
  · exact g0_iv _ v h
  · simp at h; subst h; rfl
def kindB (P : Program) (f : Field) : Bool := match P.underlying f.type with | some .bool => true | _ => false
def kindI (P : Program) (f : Field) : Bool := match P.underlying f.type with | some (.int .i64) => true | _ => false
def fieldsKB (P : Program) (fs : Array Field) (q : Nat) : Bool := (List.range q).all (fun j => match fs[j]? with | some f => kindI P f | none => false) && match fs[q]? with | some f => kindB P f | none => false
theorem fieldsKB_int {P : Program} {fs : Array Field} {q j : Nat} {f : Field} (h : fieldsKB P fs q = true) (hj : fs[j]? = some f) (hq : j < q) : P.underlying f.type = some (.int .i64) := by
  simp only [fieldsKB, Bool.and_eq_true] at h
  have := List.all_eq_true.1 h.1 j (List.mem_range.2 hq)
  rw [hj] at this
  simp only [kindI] at this
  split at this
  · assumption
  · cases this
theorem fieldsKB_bool {P : Program} {fs : Array Field} {q : Nat} {f : Field} (h : fieldsKB P fs q = true) (hj : fs[q]? = some f) : P.underlying f.type = some .bool := by
  simp only [fieldsKB, Bool.and_eq_true] at h
  have := h.2
  rw [hj] at this
  simp only [kindB] at this
  split at this
  · assumption
  · cases this
section
variable {H : Type} {enc : TypeId × Value → H} {P : Program} {w : World} {base : Nat} {spare : Nat → Bool} {held : Bool}
theorem arg_strs {r : Reach} {b0 : Nat} {T e : TypeId} {a : Option Addr} {n c : Nat} {d : DataW H} {p : List MemPlace} (ht : P.underlying T = some (.slice e)) (he : P.underlying e = some .string) (hce : P.cellsOf e = 1) (hok : Value.okWide P w r b0 T (.slice a n c)) (h : DataW.Trod enc P w base spare held T (.slice a n c) d p) :
    ∃ l : List ByteArray, l.length = n ∧ n ≤ maxLen ∧ Okarg w (.slice a n c, sv l) ∧ ∀ M : AM, ∀ i, M[i]? = some (mkB (.slice a n c, sv l)) → Strs M (mkV i (.slice a n c)) l := by
  obtain ⟨fuel, h⟩ := h
  rcases ok_slice ht hok with ⟨rfl, rfl, rfl⟩ | ⟨b, o, rfl, hle, hlt⟩
  · exact ⟨[], rfl, by unfold maxLen; omega, .inl rfl, fun M i hi => ⟨i, 0, .inl ⟨rfl, rfl⟩, (List.getElem?_eq_some_iff.1 hi).1, fun k hk => by simp at hk⟩⟩
  · rcases open_strs ht he hce h with ⟨hcs, _⟩ | ⟨x, l, cap, m, S, hcs, _, hl, hm, hmm, _, hcell⟩
    · simp [Value.cells] at hcs
    · simp [Value.cells] at hcs
      obtain ⟨rfl, rfl, rfl⟩ := hcs
      have hnm : n ≤ m := by rw [hmm]; split <;> omega
      refine ⟨(List.range n).map S, by simp, by omega, .inr ⟨b, o, n, c, rfl, hle, hlt, fun j x hj => ?_, fun x hx => ?_⟩, fun M i hM => ?_⟩
      · have hjl := (List.getElem?_eq_some_iff.1 hj).1
        simp [sv] at hjl
        have := (hcell j (by omega)).1
        rw [Addr.add_lit] at this
        rw [this]
        simpa [sv, hjl] using hj
      · simp [sv] at hx
        obtain ⟨k, _, rfl⟩ := hx
        rfl
      · simp only [mkB] at hM
        refine ⟨i, 0, by simpa [mkV] using Sl.mk (Nat.le_refl n), (List.getElem?_eq_some_iff.1 hM).1, fun k hk => ⟨_, hM, ?_⟩⟩
        simp at hk
        simp [sv, rowOf, hk]
theorem arg_kb {r : Reach} {b0 : Nat} {T e : TypeId} {fs : Array Field} {a : Option Addr} {n c : Nat} {d : DataW H} {p : List MemPlace} (ht : P.underlying T = some (.slice e)) (he : P.underlying e = some (.struct fs)) (hone : oneCellFields P fs = true) (hC : P.cellsOf e = fs.size)
    {q : Nat} (hq : fs.size = q + 1) (hi : fieldsKB P fs q = true) (hok : Value.okWide P w r b0 T (.slice a n c)) (h : DataW.Trod enc P w base spare held T (.slice a n c) d p) :
    ∃ F : Nat → List Int × Bool, (∀ k, (F k).1.length = q) ∧ n ≤ maxLen ∧ Okarg w (.slice a n c, (List.range n).flatMap fun k => kb (F k)) ∧ (∀ M : AM, ∀ i, M[i]? = some (mkB (.slice a n c, (List.range n).flatMap fun k => kb (F k))) → Sl (mkV i (.slice a n c)) i 0 n ∧ i < M.length ∧ ∀ k, k < n → RdL M i (0 + k * fs.size) (kb (F k))) := by
  obtain ⟨fuel, h⟩ := h
  rcases ok_slice ht hok with ⟨rfl, rfl, rfl⟩ | ⟨b, o, rfl, hle, hlt⟩
  · exact ⟨fun _ => (List.replicate q 0, false), fun _ => by simp, by unfold maxLen; omega, .inl rfl, fun M i hi => ⟨.inl ⟨rfl, rfl⟩, (List.getElem?_eq_some_iff.1 hi).1, fun k hk => by omega⟩⟩
  · rcases open_slice_fields ht he hone hC h with ⟨hcs, _⟩ | ⟨x, l, cap, m, D, Pl, hcs, _, hl, hm, hmm, _, hrow⟩
    · simp [Value.cells] at hcs
    · simp [Value.cells] at hcs
      obtain ⟨rfl, rfl, rfl⟩ := hcs
      have key : ∀ k : Nat, ∃ y : List Int × Bool, y.1.length = q ∧ (k < n → ∀ j v, (kb y)[j]? = some v → w.cell? ⟨b, o + (k * fs.size + j), none⟩ = some v) := fun k => by
        by_cases hk : k < n
        · obtain ⟨ys, nn, _, _, _, hf⟩ := hrow k (by rw [hmm]; split <;> omega)
          have key2 : ∀ j : Nat, ∃ z : Int, j < q → w.cell? ⟨b, o + (k * fs.size + j), none⟩ = some (.int .i64 z) := fun j => by
            by_cases hj : j < q
            · obtain ⟨v, y, h1, _, h3⟩ := hf j fs[j] (Array.getElem?_eq_getElem (by omega))
              obtain ⟨z, hz, _⟩ := DataW.trod_int (fieldsKB_int hi (Array.getElem?_eq_getElem (by omega)) hj) h3
              simp at hz
              subst hz
              rw [Addr.add_lit] at h1
              exact ⟨z, fun _ => h1⟩
            · exact ⟨0, fun h => absurd h hj⟩
          obtain ⟨g, hg⟩ := Classical.axiomOfChoice key2
          obtain ⟨v, y, h1, _, h3⟩ := hf q (fs[q]'(by omega)) (Array.getElem?_eq_getElem (by omega))
          obtain ⟨z, hz, _⟩ := DataW.trod_bool (fieldsKB_bool hi (Array.getElem?_eq_getElem (by omega))) h3
          simp at hz
          subst hz
          rw [Addr.add_lit] at h1
          refine ⟨((List.range q).map g, z), by simp, fun _ j v hj => ?_⟩
          unfold kb at hj
          rcases Nat.lt_trichotomy j q with h | rfl | h
          · rw [List.getElem?_append_left (by simpa [iv] using h), iv_get (by simpa using h)] at hj
            injection hj with hj
            rw [hg j h, ← hj]
            simp [h]
          · rw [List.getElem?_append_right (by simp [iv])] at hj
            simp [iv] at hj
            rw [← hj]; exact h1
          · rw [List.getElem?_eq_none (by simp [iv]; omega)] at hj
            cases hj
        · exact ⟨(List.replicate q 0, false), by simp, fun h => absurd h hk⟩
      obtain ⟨F, hF⟩ := Classical.axiomOfChoice key
      have hlenF : ∀ k, (kb (F k)).length = fs.size := fun k => by unfold kb; rw [List.length_append, iv_len, (hF k).1, hq]; rfl
      have get : ∀ q, ∀ k, k < q → ∀ j v, (kb (F k))[j]? = some v → ((List.range q).flatMap fun k => kb (F k))[k * fs.size + j]? = some v := by
        intro q
        induction q with
        | zero => intro k hk; omega
        | succ q ih =>
          intro k hk j v hj
          have hjl : j < fs.size := by
            have := (List.getElem?_eq_some_iff.1 hj).1
            rwa [hlenF] at this
          have hql : ((List.range q).flatMap fun k => kb (F k)).length = q * fs.size := by
            clear ih hk hj
            induction q with
            | zero => simp
            | succ q ih2 => rw [List.range_succ, List.flatMap_append, List.length_append, ih2]; simp [hlenF, Nat.add_mul]
          rw [List.range_succ, List.flatMap_append]
          rcases Nat.lt_succ_iff_lt_or_eq.1 hk with h' | h'
          · have h2 : k * fs.size + fs.size ≤ q * fs.size := by
              have := Nat.mul_le_mul_right fs.size (show k + 1 ≤ q by omega)
              rw [Nat.add_mul] at this; omega
            rw [List.getElem?_append_left (by rw [hql]; omega)]
            exact ih k h' j v hj
          · subst h'
            rw [List.getElem?_append_right (by rw [hql]; omega), hql, Nat.add_sub_cancel_left]
            simpa using hj
      have tot : ∀ q, ((List.range q).flatMap fun k => kb (F k)).length = q * fs.size := fun q => by
        induction q with
        | zero => simp
        | succ q ih2 => rw [List.range_succ, List.flatMap_append, List.length_append, ih2]; simp [hlenF, Nat.add_mul]
      refine ⟨F, fun k => (hF k).1, by omega, .inr ⟨b, o, n, c, rfl, hle, hlt, fun j x hj => ?_, fun x hx => ?_⟩, fun M i hM => ?_⟩
      · have hjl := (List.getElem?_eq_some_iff.1 hj).1
        simp only at hjl hj
        rw [tot] at hjl
        have hs : 0 < fs.size := by
          rcases Nat.eq_zero_or_pos fs.size with h0 | h0
          · rw [h0] at hjl; omega
          · exact h0
        have hk : j / fs.size < n := (Nat.div_lt_iff_lt_mul hs).2 hjl
        have hr : j % fs.size < fs.size := Nat.mod_lt _ hs
        have e : j = j / fs.size * fs.size + j % fs.size := by rw [Nat.mul_comm]; exact (Nat.div_add_mod j fs.size).symm
        obtain ⟨v, hv⟩ : ∃ v, (kb (F (j / fs.size)))[j % fs.size]? = some v := ⟨_, List.getElem?_eq_getElem (by rw [hlenF]; exact hr)⟩
        have h1 := get n (j / fs.size) hk (j % fs.size) v hv
        rw [← e] at h1
        rw [h1] at hj
        injection hj with hj
        have h2 := (hF (j / fs.size)).2 hk (j % fs.size) v hv
        rw [← e] at h2
        rw [h2, hj]
      · obtain ⟨k, _, hk⟩ := List.mem_flatMap.1 hx
        exact g0_kb _ x hk
      · simp only [mkB] at hM
        refine ⟨Sl.mk (Nat.le_refl _), (List.getElem?_eq_some_iff.1 hM).1, fun k hk => ⟨_, hM, fun j v hj => ?_⟩⟩
        rw [Nat.zero_add]
        exact get n k hk j v hj
def kv (l : List Kd) : List Value := l.flatMap Kd.cells
theorem arg_kinds {r : Reach} {b0 : Nat} {T e : TypeId} {fs : Array Field} {a : Option Addr} {n c : Nat} {d : DataW H} {p : List MemPlace} (ht : P.underlying T = some (.slice e)) (he : P.underlying e = some (.struct fs)) (hone : oneCellFields P fs = true) (hC : P.cellsOf e = fs.size)
    (hq : fs.size = 4 + 1) (hi : fieldsKB P fs 4 = true) (hok : Value.okWide P w r b0 T (.slice a n c)) (h : DataW.Trod enc P w base spare held T (.slice a n c) d p) :
    ∃ l : List Kd, l.length = n ∧ n ≤ maxLen ∧ Okarg w (.slice a n c, kv l) ∧ ∀ M : AM, ∀ i, M[i]? = some (mkB (.slice a n c, kv l)) → Kds M (mkV i (.slice a n c)) l := by
  obtain ⟨F, h1, h2, h3, h4⟩ := arg_kb ht he hone hC hq hi hok h
  have key : ∀ k, ∃ x : Kd, kb (F k) = x.cells := fun k => by
    have hk := h1 k
    generalize F k = y at hk ⊢
    obtain ⟨l, b⟩ := y
    simp only at hk
    match l, hk with
    | [x, y, z, u], _ => exact ⟨⟨x, y, z, u, b⟩, rfl⟩
  obtain ⟨G, hG⟩ := Classical.axiomOfChoice key
  have e : ((List.range n).flatMap fun k => kb (F k)) = kv ((List.range n).map G) := by
    unfold kv
    rw [List.flatMap_map]
    congr 1
    funext k
    exact hG k
  rw [e] at h3 h4
  refine ⟨(List.range n).map G, by simp, h2, h3, fun M i hM => ?_⟩
  obtain ⟨k1, k2, k3⟩ := h4 M i hM
  refine ⟨i, 0, by simpa using k1, k2, fun k hk => ?_⟩
  simp at hk
  have := k3 k hk
  rw [hq, hG k] at this
  have eg : ((List.range n).map G).getD k default = G k := by simp [hk]
  rw [eg]
  exact this
end
end Go.Proofs.YtibhgdglbillaaaDoor.Abs
