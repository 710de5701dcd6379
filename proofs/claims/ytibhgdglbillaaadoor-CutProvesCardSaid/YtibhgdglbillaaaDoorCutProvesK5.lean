/- Proved here: what the proof of CutProves rests on, part 5 of 5. Conditions: those that each theorem names. -/
import Derived.Test.YtibhgdglbillaaaDoorCutProvesK4
namespace Go.Proofs.YtibhgdglbillaaaDoor.Abs
set_option linter.unusedSimpArgs false
set_option linter.unusedVariables false
open Go.RowKit
open Go.Proofs.YtibhgdglbillaaaDoor.Sim
open Go.Proofs
theorem bound_no {leaf : R4 → Int} {w h : Nat} {t : List Int} {r : R4} (hr : r ∈ allR w h h) (h1 : okR leaf w h t r = false) : boundB leaf w h t = false := by
  rw [Bool.eq_false_iff]
  intro hc
  simp only [boundB, Bool.and_eq_true, List.all_eq_true] at hc
  have := hc.2 r hr
  rw [h1] at this
  cases this
theorem bound_neg {leaf : R4 → Int} {w h : Nat} {t : List Int} {k : Nat} (hk : k < t.length) (h1 : t.getD k 0 < 0) : boundB leaf w h t = false := by
  rw [Bool.eq_false_iff]
  intro hc
  simp only [boundB, Bool.and_eq_true, List.all_eq_true, decide_eq_true_eq] at hc
  have := hc.1 (t.getD k 0) (by rw [getD_in _ _ hk]; exact List.getElem_mem hk)
  omega
theorem bound_yes {leaf : R4 → Int} {w h : Nat} {t : List Int} (h1 : ∀ k, k < t.length → 0 ≤ t.getD k 0) (h2 : ∀ i, i < (allR w h h).length → okR leaf w h t ((allR w h h).getD i default) = true) : boundB leaf w h t = true := by
  simp only [boundB, Bool.and_eq_true, List.all_eq_true, decide_eq_true_eq]
  refine ⟨fun x hx => ?_, fun r hr => ?_⟩
  · obtain ⟨i, hi, rfl⟩ := List.getElem_of_mem hx
    have := h1 i hi
    rwa [getD_in _ _ hi] at this
  · obtain ⟨i, hi, rfl⟩ := List.getElem_of_mem hr
    have := h2 i hi
    rwa [getD_in _ _ hi] at this
theorem cutOk_no {w h : Nat} {t : List Int} {r : R4} {d : Bool} {i n : Nat} (hi : i < n) (h1 : cutOk w h t r d (i + 1) = false) : cutOk w h t r d n = false := by
  rw [Bool.eq_false_iff] at h1 ⊢
  intro hc
  exact h1 (cutOk_iff.2 fun j h2 h3 => cutOk_iff.1 hc j h2 (by omega))
set_option maxHeartbeats 8000000 in
set_option maxRecDepth 100000 in
theorem Bound_ok {m : AM} {sv kv tv : Value} {B : Brd} {K : List Kd} {t : List Int} (hs : Strs m sv B) (hk : Kds m kv K) (ht : Ints m tv t) (h64 : I64s t) (hg : goodB B K = true) (hl : t.length = total (bw B) (bh B)) :
    ACall Tryd.prog 82 #[sv, kv, tv] m (Ret (.bool (boundB (leafM B K) (bw B) (bh B) t)) m) := by
  have hgb : boardB B = true := by simp only [goodB, Bool.and_eq_true] at hg; exact hg.1
  have hin := good_in hgb
  have htl := total_le hin.2.2.2 hin.2.1
  have hpc := fun T r (hr : R4.ok (bw B) (bh B) r) => piece_ok (hs.old T) (hk.old T) hg hr
  obtain ⟨A1, O1, sl1, la1, rd1⟩ := hs
  obtain ⟨q1, c1, rfl⟩ := sl1.shape
  obtain ⟨A2, O2, sl2, la2, _⟩ := hk
  obtain ⟨q2, c2, rfl⟩ := sl2.shape
  obtain ⟨A, O, sl, la, rd⟩ := ht
  obtain ⟨q, c, rfl⟩ := sl.shape
  have w1 : Low m.length (.slice q1 B.length c1) := Low.of_sl sl1 la1
  have w2 : Low m.length (.slice q2 K.length c2) := Low.of_sl sl2 la2
  have w3 : Low m.length (.slice q t.length c) := Low.of_sl sl la
  have r0 := rd1 0 (show 0 < B.length from hin.1)
  have hb0 : 0 < B.length := hin.1
  have hbw : (rowOf B 0).size = bw B := rfl
  refine ACall.start Tryd.func82 rfl rfl ?_
  (repeat (first | (with_reducible refine AWo.cons ?_) | ((with_reducible refine Step.id ?_); first | ((with_reducible apply Step.move); exact rfl; exact rfl) | ((with_reducible apply Step.assign); exact rfl; exact rfl) | ((with_reducible apply Step.load); exact rfl; (focus (decide +kernel)); exact rfl; (focus (exact Rd.old _ (by assumption)))) | ((with_reducible apply Step.ix1); exact rfl; (focus (assumption)); exact rfl; (focus (decide +kernel)); exact rfl; (focus (omega))) | ((with_reducible apply Step.lenS); exact rfl; exact un9; exact rfl) | ((with_reducible apply Step.len); exact rfl; (focus (assumption)); (focus (decide +kernel)); exact rfl)) | (with_reducible refine AWo.nil ?_) | ((with_reducible apply AW.seq)) | ((with_reducible apply Then.n)) | ((with_reducible apply AW.regL)) | ((with_reducible apply AW.block))))
  refine AW.loopT (fun n t' L => ∃ k : Nat, n = t.length - k ∧ k ≤ t.length ∧ L = [] ∧ (∀ j, j < k → 0 ≤ t.getD j 0) ∧
    t' = [(0, .slice q1 B.length c1), (1, .slice q2 K.length c2), (2, .slice q t.length c), (7, .int .i64 (bw B : Nat)), (8, .int .i64 (bh B : Nat)), (23, .slice q t.length c), (24, .int .i64 (t.length : Nat)), (25, .int .i64 (k : Nat))])
    ⟨_, _, _, (Or.inl ⟨rfl, (by repeat (first | exact trivial | (refine And.intro rfl ?_)))⟩), 0, rfl, Nat.zero_le _, rfl, fun j hj => by omega, rfl⟩ ?_
  rintro n t' L ⟨k, rfl, hk2, rfl, hneg, rfl⟩
  rcases Nat.lt_or_ge k t.length with hkl | hkl
  · have hx := rd k hkl
    by_cases hn : t.getD k 0 < 0
    · (repeat (first | (with_reducible refine AWo.cons ?_) | ((with_reducible refine Step.id ?_); first | ((with_reducible apply Step.move); exact rfl; exact rfl) | ((with_reducible apply Step.assign); exact rfl; exact rfl) | ((with_reducible apply Step.load); exact rfl; (focus (decide +kernel)); exact rfl; (focus (exact Rd.old _ (by assumption)))) | ((with_reducible apply Step.ix1); exact rfl; (focus (assumption)); exact rfl; (focus (decide +kernel)); exact rfl; (focus (omega))) | ((with_reducible apply Step.lss); exact rfl; exact rfl; exact rfl)) | (with_reducible refine AWo.nil ?_) | ((with_reducible apply AW.seq)) | ((with_reducible apply Then.n)) | ((with_reducible apply AW.regL)) | ((with_reducible apply AW.block)) | ((with_reducible apply AW.skip)) | ((with_reducible apply AW.condT); exact rfl; (focus ((simp only [decide_eq_true_eq, decide_eq_false_iff_not, Bool.not_eq_true', Bool.not_eq_false', Bool.not_true, Bool.not_false]; first | assumption | omega))))))
      (refine AW.retD (l := [(6, _)]) (by repeat (first | exact trivial | (refine And.intro ⟨rfl, by (exact .bool _)⟩ ?_))) ?_; (repeat (first | refine Then.r ?_ | refine InBlk.r ?_)))
      exact ⟨_, rfl, by rw [bound_neg hkl hn], rfl⟩
    · (repeat (first | (with_reducible refine AWo.cons ?_) | ((with_reducible refine Step.id ?_); first | ((with_reducible apply Step.move); exact rfl; exact rfl) | ((with_reducible apply Step.assign); exact rfl; exact rfl) | ((with_reducible apply Step.load); exact rfl; (focus (decide +kernel)); exact rfl; (focus (exact Rd.old _ (by assumption)))) | ((with_reducible apply Step.ix1); exact rfl; (focus (assumption)); exact rfl; (focus (decide +kernel)); exact rfl; (focus (omega))) | ((with_reducible apply Step.add); exact rfl; exact rfl; (focus (omega)); exact rfl) | ((with_reducible apply Step.lss); exact rfl; exact rfl; exact rfl)) | (with_reducible refine AWo.nil ?_) | ((with_reducible apply AW.seq)) | ((with_reducible apply Then.n)) | ((with_reducible apply AW.regL)) | ((with_reducible apply AW.block)) | ((with_reducible apply InBlk.n)) | ((with_reducible apply AW.skip)) | ((with_reducible apply AW.condT); exact rfl; (focus ((simp only [decide_eq_true_eq, decide_eq_false_iff_not, Bool.not_eq_true', Bool.not_eq_false', Bool.not_true, Bool.not_false]; first | assumption | omega)))) | ((with_reducible apply AW.condF); exact rfl; (focus ((simp only [decide_eq_true_eq, decide_eq_false_iff_not, Bool.not_eq_true', Bool.not_eq_false', Bool.not_true, Bool.not_false]; first | assumption | omega))))))
      exact ⟨_, _, _, by omega, (Or.inl ⟨rfl, (by repeat (first | exact trivial | (refine And.intro rfl ?_)))⟩), k + 1, rfl, by omega, rfl, fun j hj => by
        rcases Nat.lt_succ_iff_lt_or_eq.1 hj with h | rfl
        · exact hneg j h
        · omega, rfl⟩
  obtain rfl : k = t.length := by omega
  have hall : ∀ i, 0 ≤ t.getD i 0 ∧ I64 (t.getD i 0) := fun i => by
    refine ⟨?_, h64 i⟩
    rcases Nat.lt_or_ge i t.length with h | h
    · exact hneg i h
    · simp [List.getD_eq_getElem?_getD, h]
  have hA := fun m => All_ok (m := m) hin.2.2.2 hin.2.1
  have htot := total_len hin.2.2.2 hin.2.1
  have hidx := fun i (r : R4) (h : (allR (bw B) (bh B) (bh B))[i]? = some r) => all_at hin.2.2.2 h
  have hgc := g0_rvc (allR (bw B) (bh B) (bh B))
  have hrl := rvc_len (allR (bw B) (bh B) (bh B))
  have hget := rvc_get (allR (bw B) (bh B) (bh B))
  have hby := bound_yes (leaf := leafM B K) (w := bw B) (h := bh B) (t := t) hneg
  have hbn := fun r hr h => bound_no (leaf := leafM B K) (w := bw B) (h := bh B) (t := t) (r := r) hr h
  generalize allR (bw B) (bh B) (bh B) = R at *
  (repeat (first | (with_reducible refine AWo.cons ?_) | ((with_reducible refine Step.id ?_); first | ((with_reducible apply Step.move); exact rfl; exact rfl) | ((with_reducible apply Step.lss); exact rfl; exact rfl; exact rfl) | ((with_reducible apply Step.len); exact rfl; (focus (exact gv_sl _ _)); (focus (decide +kernel)); exact rfl) | ((with_reducible apply Step.callG fit (k := 0)); exact rfl; exact rfl; exact Tryd.func103; exact rfl; exact rfl; exact (hA _); (focus (first | (simp only [List.nil_append, List.cons_append, List.set_cons_zero, List.set_cons_succ, iv_set, bv_set, iv_rep, bv_rep]; done) | (simp only [List.nil_append, List.cons_append, List.set_cons_zero, List.set_cons_succ, iv_set, bv_set, iv_rep, bv_rep]; rfl) | rfl)))) | (with_reducible refine AWo.nil ?_) | ((with_reducible apply AW.seq)) | ((with_reducible apply Then.n)) | ((with_reducible apply AW.regL)) | ((with_reducible apply AW.block)) | ((with_reducible apply AW.exit)) | ((with_reducible apply InBlk.hit)) | ((with_reducible apply Then.e)) | ((with_reducible apply AW.condF); exact rfl; (focus ((simp only [decide_eq_true_eq, decide_eq_false_iff_not, Bool.not_eq_true', Bool.not_eq_false', Bool.not_true, Bool.not_false]; first | assumption | omega))))))
  refine AW.loopT (fun n t' L => ∃ i : Nat, n = R.length - i ∧ i ≤ R.length ∧ L = [gb (rvc R) 4] ∧ (∀ j, j < i → okR (leafM B K) (bw B) (bh B) t (R.getD j default) = true) ∧
    t' = [(0, .slice q1 B.length c1), (1, .slice q2 K.length c2), (2, .slice q t.length c), (7, .int .i64 (bw B : Nat)), (8, .int .i64 (bh B : Nat)), (34, gv (m.length + 0) R.length), (35, .int .i64 (R.length : Nat)), (36, .int .i64 (i : Nat))])
    ⟨_, _, _, (Or.inl ⟨rfl, (by repeat (first | exact trivial | (refine And.intro rfl ?_)))⟩), 0, rfl, Nat.zero_le _, rfl, fun j hj => by omega, rfl⟩ ?_
  rintro n t' L ⟨i, rfl, hi, rfl, hok, rfl⟩
  rcases Nat.lt_or_ge i R.length with hil | hil
  · obtain ⟨r, hr⟩ : ∃ r, R[i]? = some r := ⟨_, List.getElem?_eq_getElem hil⟩
    obtain ⟨hat, hrok⟩ := hidx i r hr
    have hrm : r ∈ R := List.mem_of_getElem? hr
    have hgd : R.getD i default = r := by rw [List.getD_eq_getElem?_getD, hr]; rfl
    have hrd : RdL (m ++ [gb (rvc R) 4]) (m.length + 0) (i * 4) r.rc.cells := by
      rw [gb_pos (by omega)]
      exact ⟨_, by rw [get_app]; rfl, fun j v hj => hget i r hr j v hj⟩
    have hti : i < t.length := by omega
    have hx := rd i hti
    have hp := fun T => hpc T r hrok
    have hpos := fun d => len_pos d hrok
    have hle := fun d => len_le d hin.2.2.2 hin.2.1 hrok
    have hrx := hrok
    simp only [R4.ok] at hrx
    have hkr : okR (leafM B K) (bw B) (bh B) t r = (decide (leafM B K r ≤ t.getD i 0) && cutOk (bw B) (bh B) t r true (r.len true - 1) && cutOk (bw B) (bh B) t r false (r.len false - 1)) := by unfold okR tg; rw [hat]
    have hst : ∀ d k, cutOk (bw B) (bh B) t r d (k + 1) = (cutOk (bw B) (bh B) t r d k && decide (t.getD ((r.lo d (k + 1)).at (bw B) (bh B)) 0 + t.getD ((r.hi d (k + 1)).at (bw B) (bh B)) 0 ≤ t.getD i 0)) := fun d k => by
      show (_ && decide (tg _ _ t _ + tg _ _ t _ ≤ tg _ _ t r)) = _
      unfold tg
      rw [hat]
    have hlo := fun d k h1 h2 => lo_ok (d := d) (i := k) hrok h1 h2
    have hhi := fun d k h1 h2 => hi_ok (d := d) (i := k) hrok h1 h2
    have atl := fun (r' : R4) (h : r'.ok (bw B) (bh B)) => at_lt hin.2.2.2 hin.2.1 h
    rw [← hl] at atl
    have hN := fun M (r' : R4) (h : r'.ok (bw B) (bh B)) => place_ok' (m := M) hin.2.2.2 hin.2.1 h
    have p1 := fun M k => left_ok (m := M) r k
    have p2 := fun M k h => rightp_ok (m := M) r (i := k) h (by omega)
    have p3 := fun M k => top_ok (m := M) r k
    have p4 := fun M k h => bottom_ok (m := M) r (i := k) h (by omega)
    change ∀ T, ACall Tryd.prog 78 #[_, _, .agg r.rc.cells.toArray] _ _ at hp
    change ∀ M (r' : R4), _ → ACall Tryd.prog 64 #[_, _, .agg r'.rc.cells.toArray] _ _ at hN
    change ∀ M k, ACall Tryd.prog 74 #[.agg r.rc.cells.toArray, _] _ (Ret (.agg (r.lo true k).rc.cells.toArray) _) at p1
    change ∀ M k, _ → ACall Tryd.prog 75 #[.agg r.rc.cells.toArray, _] _ (Ret (.agg (r.hi true k).rc.cells.toArray) _) at p2
    change ∀ M k, ACall Tryd.prog 76 #[.agg r.rc.cells.toArray, _] _ (Ret (.agg (r.lo false k).rc.cells.toArray) _) at p3
    change ∀ M k, _ → ACall Tryd.prog 77 #[.agg r.rc.cells.toArray, _] _ (Ret (.agg (r.hi false k).rc.cells.toArray) _) at p4
    have hrv : r.rc = ⟨(r.x : Nat), (r.y : Nat), (r.len true : Nat), (r.len false : Nat)⟩ := rfl
    have r9 : ∀ b0 (T : AM), RdL (m ++ (b0 :: some { cells := r.rc.cells } :: T)) (m.length + 1) 0 r.rc.cells := fun b0 T => RdL.new rfl rfl
    have r92 : ∀ b0 (T : AM), Rd (m ++ (b0 :: some { cells := r.rc.cells } :: T)) (m.length + 1) (0 + 2) (.int .i64 (r.len true : Nat)) := fun b0 T => Rd.new rfl rfl
    have r93 : ∀ b0 (T : AM), Rd (m ++ (b0 :: some { cells := r.rc.cells } :: T)) (m.length + 1) (0 + 3) (.int .i64 (r.len false : Nat)) := fun b0 T => Rd.new rfl rfl
    by_cases hlf : t.getD i 0 < leafM B K r
    · have e := hbn r hrm (by rw [hkr, decide_eq_false (by omega)]; rfl)
      (repeat (first | (with_reducible refine AWo.cons ?_) | ((with_reducible refine Step.id ?_); first | ((with_reducible apply Step.move); exact rfl; exact rfl) | ((with_reducible apply Step.assign); exact rfl; exact rfl) | ((with_reducible apply Step.load); exact rfl; (focus (decide +kernel)); exact rfl; (focus (exact Rd.old _ (by assumption)))) | ((with_reducible apply Step.loadL (n := 4)); exact rfl; (focus (decide +kernel)); (focus (decide +kernel)); exact rfl; (focus (first | assumption | exact RdL.new rfl rfl)); exact rfl; exact rfl) | ((with_reducible apply Step.ix1); exact rfl; (focus (first | assumption | exact gv_sl _ _)); exact rfl; (focus (decide +kernel)); exact rfl; (focus (omega))) | ((with_reducible apply Step.ixz (s := 4)); exact rfl; (focus (exact gv_sl _ _)); exact rfl; (focus (decide +kernel)); exact rfl; (focus (omega))) | ((with_reducible apply Step.lss); exact rfl; exact rfl; exact rfl) | ((with_reducible apply Step.extract); exact rfl; exact rfl; exact rfl) | ((with_reducible apply Step.callR fit); exact rfl; exact Tryd.func78; exact rfl; exact rfl; exact (hp _)) | ((with_reducible apply Step.alloc 1); exact rfl; exact ze23; exact rfl; (focus (first | (simp only [List.nil_append, List.cons_append, List.set_cons_zero, List.set_cons_succ, iv_set, bv_set, iv_rep, bv_rep]; done) | (simp only [List.nil_append, List.cons_append, List.set_cons_zero, List.set_cons_succ, iv_set, bv_set, iv_rep, bv_rep]; rfl) | rfl))) | ((with_reducible apply Step.storeA (k := 1) (n := 4)); exact rfl; exact rfl; exact rfl; exact rfl; (focus (decide +kernel)); exact rfl; (focus (kernel_rfl)); exact rfl; (focus (first | (simp only [List.nil_append, List.cons_append, List.set_cons_zero, List.set_cons_succ, iv_set, bv_set, iv_rep, bv_rep]; done) | (simp only [List.nil_append, List.cons_append, List.set_cons_zero, List.set_cons_succ, iv_set, bv_set, iv_rep, bv_rep]; rfl) | rfl)))) | (with_reducible refine AWo.nil ?_) | ((with_reducible apply AW.seq)) | ((with_reducible apply Then.n)) | ((with_reducible apply AW.regL)) | ((with_reducible apply AW.block)) | ((with_reducible apply AW.skip)) | ((with_reducible apply AW.condT); exact rfl; (focus ((simp only [decide_eq_true_eq, decide_eq_false_iff_not, Bool.not_eq_true', Bool.not_eq_false', Bool.not_true, Bool.not_false]; first | assumption | omega))))))
      (refine AW.retD (l := [(6, _)]) (by repeat (first | exact trivial | (refine And.intro ⟨rfl, by (exact .bool _)⟩ ?_))) ?_; (repeat (first | refine Then.r ?_ | refine InBlk.r ?_)))
      exact ⟨_, rfl, by rw [e], rfl⟩
    (repeat (first | (with_reducible refine AWo.cons ?_) | ((with_reducible refine Step.id ?_); first | ((with_reducible apply Step.move); exact rfl; exact rfl) | ((with_reducible apply Step.assign); exact rfl; exact rfl) | ((with_reducible apply Step.load); exact rfl; (focus (decide +kernel)); exact rfl; (focus (exact Rd.old _ (by assumption)))) | ((with_reducible apply Step.loadL (n := 4)); exact rfl; (focus (decide +kernel)); (focus (decide +kernel)); exact rfl; (focus (first | assumption | exact RdL.new rfl rfl)); exact rfl; exact rfl) | ((with_reducible apply Step.ix1); exact rfl; (focus (first | assumption | exact gv_sl _ _)); exact rfl; (focus (decide +kernel)); exact rfl; (focus (omega))) | ((with_reducible apply Step.ixz (s := 4)); exact rfl; (focus (exact gv_sl _ _)); exact rfl; (focus (decide +kernel)); exact rfl; (focus (omega))) | ((with_reducible apply Step.lss); exact rfl; exact rfl; exact rfl) | ((with_reducible apply Step.extract); exact rfl; exact rfl; exact rfl) | ((with_reducible apply Step.callR fit); exact rfl; exact Tryd.func78; exact rfl; exact rfl; exact (hp _)) | ((with_reducible apply Step.alloc 1); exact rfl; exact ze23; exact rfl; (focus (first | (simp only [List.nil_append, List.cons_append, List.set_cons_zero, List.set_cons_succ, iv_set, bv_set, iv_rep, bv_rep]; done) | (simp only [List.nil_append, List.cons_append, List.set_cons_zero, List.set_cons_succ, iv_set, bv_set, iv_rep, bv_rep]; rfl) | rfl))) | ((with_reducible apply Step.storeA (k := 1) (n := 4)); exact rfl; exact rfl; exact rfl; exact rfl; (focus (decide +kernel)); exact rfl; (focus (kernel_rfl)); exact rfl; (focus (first | (simp only [List.nil_append, List.cons_append, List.set_cons_zero, List.set_cons_succ, iv_set, bv_set, iv_rep, bv_rep]; done) | (simp only [List.nil_append, List.cons_append, List.set_cons_zero, List.set_cons_succ, iv_set, bv_set, iv_rep, bv_rep]; rfl) | rfl)))) | (with_reducible refine AWo.nil ?_) | ((with_reducible apply AW.seq)) | ((with_reducible apply Then.n)) | ((with_reducible apply AW.regL)) | ((with_reducible apply AW.block)) | ((with_reducible apply AW.skip)) | ((with_reducible apply AW.condT); exact rfl; (focus ((simp only [decide_eq_true_eq, decide_eq_false_iff_not, Bool.not_eq_true', Bool.not_eq_false', Bool.not_true, Bool.not_false]; first | assumption | omega)))) | ((with_reducible apply AW.condF); exact rfl; (focus ((simp only [decide_eq_true_eq, decide_eq_false_iff_not, Bool.not_eq_true', Bool.not_eq_false', Bool.not_true, Bool.not_false]; first | assumption | omega))))))
    refine AW.loopT (fun n t' L => ∃ k : Nat, n = r.len true - k ∧ k + 1 ≤ r.len true ∧ L = [gb (rvc R) 4, some { cells := r.rc.cells }] ∧ cutOk (bw B) (bh B) t r true k = true ∧ t' = [(0, .slice q1 B.length c1), (1, .slice q2 K.length c2), (2, .slice q t.length c), (7, .int .i64 (bw B : Nat)), (8, .int .i64 (bh B : Nat)), (34, gv (m.length + 0) R.length), (35, .int .i64 (R.length : Nat)), (36, .int .i64 (i : Nat)), (11, .int .i64 (i : Nat)), (12, .pointer (some ⟨m.length + 1, 0, none⟩)), (15, .int .i64 (k + 1 : Nat))])
      ⟨_, _, _, (Or.inl ⟨rfl, (by repeat (first | exact trivial | (refine And.intro rfl ?_)))⟩), 0, rfl, by have := hpos true; omega, rfl, rfl, rfl⟩ ?_
    rintro n t' L ⟨k, rfl, hk1, rfl, hck, rfl⟩
    have hltrue := hle true
    rcases Nat.lt_or_ge (k + 1) (r.len true) with hkl | hkl
    · have o1 := hlo true (k + 1) (by omega) (by omega)
      have o2 := hhi true (k + 1) (by omega) (by omega)
      have d1 := rd _ (atl _ o1)
      have d2 := rd _ (atl _ o2)
      have y1 := atl _ o1
      have y2 := atl _ o2
      have n1 := fun M => hN M _ o1
      have n2 := fun M => hN M _ o2
      have f1 := hall ((r.lo true (k + 1)).at (bw B) (bh B))
      have f2 := hall ((r.hi true (k + 1)).at (bw B) (bh B))
      have hP1 := fun M => p1 M (k + 1)
      have hP2 := fun M => p2 M (k + 1) (by omega)
      have hstk := hst true k
      have hsm := fun M => sums_ok (m := M) (hall i).2 f1.1 f2.1
      generalize (r.lo true (k + 1)).at (bw B) (bh B) = s1 at *
      generalize (r.hi true (k + 1)).at (bw B) (bh B) = s2 at *
      generalize (r.lo true (k + 1)).rc = g1 at *
      generalize (r.hi true (k + 1)).rc = g2 at *
      (repeat (first | (with_reducible refine AWo.cons ?_) | ((with_reducible refine Step.id ?_); first | ((with_reducible apply Step.move); exact rfl; exact rfl) | ((with_reducible apply Step.load); exact rfl; (focus (decide +kernel)); exact rfl; (focus (exact r92 _ _))) | ((with_reducible apply Step.field (k := 2)); exact rfl; (focus (decide +kernel)); exact rfl) | ((with_reducible apply Step.lss); exact rfl; exact rfl; exact rfl)) | (with_reducible refine AWo.nil ?_) | ((fail_if_success (with_reducible refine AW.atR (id := 17) ?_)); ((with_reducible apply AW.seq))) | ((with_reducible apply Then.n)) | ((with_reducible apply AW.regL)) | ((with_reducible apply AW.block)) | ((with_reducible apply AW.skip)) | ((with_reducible apply AW.condT); exact rfl; (focus ((simp only [decide_eq_true_eq, decide_eq_false_iff_not, Bool.not_eq_true', Bool.not_eq_false', Bool.not_true, Bool.not_false]; first | assumption | omega))))))
      refine AW.seq ?_
      refine AW.flatN fit [(0, .slice q1 B.length c1), (1, .slice q2 K.length c2), (2, .slice q t.length c), (7, .int .i64 (bw B : Nat)), (8, .int .i64 (bh B : Nat)), (34, gv (m.length + 0) R.length), (35, .int .i64 (R.length : Nat)), (36, .int .i64 (i : Nat)), (11, .int .i64 (i : Nat)), (12, .pointer (some ⟨m.length + 1, 0, none⟩)), (15, .int .i64 (k + 1 : Nat))] [(0, .slice q1 B.length c1), (1, .slice q2 K.length c2), (2, .slice q t.length c), (7, .int .i64 (bw B : Nat)), (8, .int .i64 (bh B : Nat)), (34, gv (m.length + 0) R.length), (35, .int .i64 (R.length : Nat)), (36, .int .i64 (i : Nat)), (11, .int .i64 (i : Nat)), (12, .pointer (some ⟨m.length + 1, 0, none⟩)), (15, .int .i64 (k + 1 : Nat)), (83, .bool (!decide (t.getD s1 0 + t.getD s2 0 ≤ t.getD i 0)))] [0, 1, 2, 7, 8, 34, 35, 36, 11, 12, 15] [[], [], [1, 0], [0], [], [], [], [], [], [1, 0], [4, 3, 0, 0], [6, 0], [0], [], [], [], [], [], [1, 0, 7], [4, 3, 0, 0], [6, 0], [0], [18, 9, 0, 2], [0]] (by repeat (first | exact trivial | (refine And.intro rfl ?_))) rfl (by decide +kernel) ?_ ?_
      · (repeat (first | ((with_reducible refine Step.id ?_); first | ((with_reducible apply Step.move); exact rfl; exact rfl) | ((with_reducible apply Step.load); exact rfl; (focus (decide +kernel)); exact rfl; (focus (exact Rd.old _ (by assumption)))) | ((with_reducible apply Step.loadL (n := 4)); exact rfl; (focus (decide +kernel)); (focus (decide +kernel)); exact rfl; (focus (exact RdL.new rfl rfl)); exact rfl; exact rfl) | ((with_reducible apply Step.ix1); exact rfl; (focus (assumption)); exact rfl; (focus (decide +kernel)); exact rfl; (focus (omega))) | ((with_reducible apply Step.not); exact rfl; exact rfl) | ((with_reducible apply Step.callR fit); exact rfl; exact Tryd.func74; exact rfl; exact rfl; exact (hP1 _)) | ((with_reducible apply Step.callR fit); exact rfl; exact Tryd.func75; exact rfl; exact rfl; exact (hP2 _)) | ((with_reducible apply Step.callR fit); exact rfl; exact Tryd.func64; exact rfl; exact rfl; exact (n1 _)) | ((with_reducible apply Step.callR fit); exact rfl; exact Tryd.func64; exact rfl; exact rfl; exact (n2 _)) | ((with_reducible apply Step.callR fit); exact rfl; exact Tryd.func104; exact rfl; exact rfl; exact (hsm _))) | (apply AWf.cons; exact rfl) | exact ⟨put_same _ _ _, rfl⟩ | ((with_reducible apply AWf.nil))))
        exact (by repeat (first | exact trivial | (refine And.intro rfl ?_)))
      intro t2 ht2
      refine Then.n ?_
      refine AW.weak ht2 ?_
      by_cases hc : t.getD s1 0 + t.getD s2 0 ≤ t.getD i 0
      · (repeat (first | (with_reducible refine AWo.cons ?_) | ((with_reducible refine Step.id ?_); first | ((with_reducible apply Step.move); exact rfl; exact rfl) | ((with_reducible apply Step.assign); exact rfl; exact rfl) | ((with_reducible apply Step.add); exact rfl; exact rfl; (focus (omega)); exact rfl)) | (with_reducible refine AWo.nil ?_) | ((with_reducible apply Then.n)) | ((with_reducible apply AW.regL)) | ((with_reducible apply InBlk.n)) | ((with_reducible apply AW.skip)) | ((with_reducible apply AW.condF); exact rfl; (focus ((simp only [decide_eq_true_eq, decide_eq_false_iff_not, Bool.not_eq_true', Bool.not_eq_false', Bool.not_true, Bool.not_false]; first | assumption | omega))))))
        exact ⟨_, _, _, by omega, (Or.inl ⟨rfl, (by repeat (first | exact trivial | (refine And.intro rfl ?_)))⟩), k + 1, rfl, by omega, rfl, by rw [hstk, hck, decide_eq_true hc]; rfl, rfl⟩
      · have hno := cutOk_no (n := r.len true - 1) (w := bw B) (h := bh B) (t := t) (r := r) (d := true) (i := k) (by omega) (by rw [hstk, decide_eq_false hc, Bool.and_false])
        have e := hbn r hrm (by rw [hkr, hno]; simp)
        (repeat (first | (with_reducible refine AWo.cons ?_) | ((with_reducible refine Step.id ?_); ((with_reducible apply Step.assign); exact rfl; exact rfl)) | (with_reducible refine AWo.nil ?_) | ((with_reducible apply AW.seq)) | ((with_reducible apply Then.n)) | ((with_reducible apply AW.regL)) | ((with_reducible apply AW.condT); exact rfl; (focus ((simp only [decide_eq_true_eq, decide_eq_false_iff_not, Bool.not_eq_true', Bool.not_eq_false', Bool.not_true, Bool.not_false]; first | assumption | omega))))))
        (refine AW.retD (l := [(6, _)]) (by repeat (first | exact trivial | (refine And.intro ⟨rfl, by (exact .bool _)⟩ ?_))) ?_; (repeat (first | refine Then.r ?_ | refine InBlk.r ?_)))
        exact ⟨_, rfl, by rw [e], rfl⟩
    have hktrue : k + 1 = r.len true := by omega
    have hcktrue : cutOk (bw B) (bh B) t r true (r.len true - 1) = true := by rw [← hktrue, Nat.add_sub_cancel]; exact hck
    clear hck
    (repeat (first | (with_reducible refine AWo.cons ?_) | ((with_reducible refine Step.id ?_); first | ((with_reducible apply Step.move); exact rfl; exact rfl) | ((with_reducible apply Step.assign); exact rfl; exact rfl) | ((with_reducible apply Step.load); exact rfl; (focus (decide +kernel)); exact rfl; (focus (exact r92 _ _))) | ((with_reducible apply Step.field (k := 2)); exact rfl; (focus (decide +kernel)); exact rfl) | ((with_reducible apply Step.lss); exact rfl; exact rfl; exact rfl)) | (with_reducible refine AWo.nil ?_) | ((with_reducible apply AW.seq)) | ((with_reducible apply Then.n)) | ((with_reducible apply AW.regL)) | ((with_reducible apply AW.block)) | ((with_reducible apply AW.exit)) | ((with_reducible apply InBlk.hit)) | ((with_reducible apply Then.e)) | ((with_reducible apply AW.condF); exact rfl; (focus ((simp only [decide_eq_true_eq, decide_eq_false_iff_not, Bool.not_eq_true', Bool.not_eq_false', Bool.not_true, Bool.not_false]; first | assumption | omega))))))
    refine AW.loopT (fun n t' L => ∃ k : Nat, n = r.len false - k ∧ k + 1 ≤ r.len false ∧ L = [gb (rvc R) 4, some { cells := r.rc.cells }] ∧ cutOk (bw B) (bh B) t r false k = true ∧ t' = [(0, .slice q1 B.length c1), (1, .slice q2 K.length c2), (2, .slice q t.length c), (7, .int .i64 (bw B : Nat)), (8, .int .i64 (bh B : Nat)), (34, gv (m.length + 0) R.length), (35, .int .i64 (R.length : Nat)), (36, .int .i64 (i : Nat)), (11, .int .i64 (i : Nat)), (12, .pointer (some ⟨m.length + 1, 0, none⟩)), (16, .int .i64 (k + 1 : Nat))])
      ⟨_, _, _, (Or.inl ⟨rfl, (by repeat (first | exact trivial | (refine And.intro rfl ?_)))⟩), 0, rfl, by have := hpos false; omega, rfl, rfl, rfl⟩ ?_
    rintro n t' L ⟨k, rfl, hk1, rfl, hck, rfl⟩
    have hlfalse := hle false
    rcases Nat.lt_or_ge (k + 1) (r.len false) with hkl | hkl
    · have o1 := hlo false (k + 1) (by omega) (by omega)
      have o2 := hhi false (k + 1) (by omega) (by omega)
      have d1 := rd _ (atl _ o1)
      have d2 := rd _ (atl _ o2)
      have y1 := atl _ o1
      have y2 := atl _ o2
      have n1 := fun M => hN M _ o1
      have n2 := fun M => hN M _ o2
      have f1 := hall ((r.lo false (k + 1)).at (bw B) (bh B))
      have f2 := hall ((r.hi false (k + 1)).at (bw B) (bh B))
      have hP1 := fun M => p3 M (k + 1)
      have hP2 := fun M => p4 M (k + 1) (by omega)
      have hstk := hst false k
      have hsm := fun M => sums_ok (m := M) (hall i).2 f1.1 f2.1
      generalize (r.lo false (k + 1)).at (bw B) (bh B) = s1 at *
      generalize (r.hi false (k + 1)).at (bw B) (bh B) = s2 at *
      generalize (r.lo false (k + 1)).rc = g1 at *
      generalize (r.hi false (k + 1)).rc = g2 at *
      (repeat (first | (with_reducible refine AWo.cons ?_) | ((with_reducible refine Step.id ?_); first | ((with_reducible apply Step.move); exact rfl; exact rfl) | ((with_reducible apply Step.load); exact rfl; (focus (decide +kernel)); exact rfl; (focus (exact r93 _ _))) | ((with_reducible apply Step.field (k := 3)); exact rfl; (focus (decide +kernel)); exact rfl) | ((with_reducible apply Step.lss); exact rfl; exact rfl; exact rfl)) | (with_reducible refine AWo.nil ?_) | ((fail_if_success (with_reducible refine AW.atR (id := 22) ?_)); ((with_reducible apply AW.seq))) | ((with_reducible apply Then.n)) | ((with_reducible apply AW.regL)) | ((with_reducible apply AW.block)) | ((with_reducible apply AW.skip)) | ((with_reducible apply AW.condT); exact rfl; (focus ((simp only [decide_eq_true_eq, decide_eq_false_iff_not, Bool.not_eq_true', Bool.not_eq_false', Bool.not_true, Bool.not_false]; first | assumption | omega))))))
      refine AW.seq ?_
      refine AW.flatN fit [(0, .slice q1 B.length c1), (1, .slice q2 K.length c2), (2, .slice q t.length c), (7, .int .i64 (bw B : Nat)), (8, .int .i64 (bh B : Nat)), (34, gv (m.length + 0) R.length), (35, .int .i64 (R.length : Nat)), (36, .int .i64 (i : Nat)), (11, .int .i64 (i : Nat)), (12, .pointer (some ⟨m.length + 1, 0, none⟩)), (16, .int .i64 (k + 1 : Nat))] [(0, .slice q1 B.length c1), (1, .slice q2 K.length c2), (2, .slice q t.length c), (7, .int .i64 (bw B : Nat)), (8, .int .i64 (bh B : Nat)), (34, gv (m.length + 0) R.length), (35, .int .i64 (R.length : Nat)), (36, .int .i64 (i : Nat)), (11, .int .i64 (i : Nat)), (12, .pointer (some ⟨m.length + 1, 0, none⟩)), (16, .int .i64 (k + 1 : Nat)), (113, .bool (!decide (t.getD s1 0 + t.getD s2 0 ≤ t.getD i 0)))] [0, 1, 2, 7, 8, 34, 35, 36, 11, 12, 16] [[], [], [1, 0], [0], [], [], [], [], [], [1, 0], [4, 3, 0, 0], [6, 0], [0], [], [], [], [], [], [1, 0, 7], [4, 3, 0, 0], [6, 0], [0], [18, 9, 0, 2], [0]] (by repeat (first | exact trivial | (refine And.intro rfl ?_))) rfl (by decide +kernel) ?_ ?_
      · (repeat (first | ((with_reducible refine Step.id ?_); first | ((with_reducible apply Step.move); exact rfl; exact rfl) | ((with_reducible apply Step.load); exact rfl; (focus (decide +kernel)); exact rfl; (focus (exact Rd.old _ (by assumption)))) | ((with_reducible apply Step.loadL (n := 4)); exact rfl; (focus (decide +kernel)); (focus (decide +kernel)); exact rfl; (focus (exact RdL.new rfl rfl)); exact rfl; exact rfl) | ((with_reducible apply Step.ix1); exact rfl; (focus (assumption)); exact rfl; (focus (decide +kernel)); exact rfl; (focus (omega))) | ((with_reducible apply Step.not); exact rfl; exact rfl) | ((with_reducible apply Step.callR fit); exact rfl; exact Tryd.func76; exact rfl; exact rfl; exact (hP1 _)) | ((with_reducible apply Step.callR fit); exact rfl; exact Tryd.func77; exact rfl; exact rfl; exact (hP2 _)) | ((with_reducible apply Step.callR fit); exact rfl; exact Tryd.func64; exact rfl; exact rfl; exact (n1 _)) | ((with_reducible apply Step.callR fit); exact rfl; exact Tryd.func64; exact rfl; exact rfl; exact (n2 _)) | ((with_reducible apply Step.callR fit); exact rfl; exact Tryd.func104; exact rfl; exact rfl; exact (hsm _))) | (apply AWf.cons; exact rfl) | exact ⟨put_same _ _ _, rfl⟩ | ((with_reducible apply AWf.nil))))
        exact (by repeat (first | exact trivial | (refine And.intro rfl ?_)))
      intro t2 ht2
      refine Then.n ?_
      refine AW.weak ht2 ?_
      by_cases hc : t.getD s1 0 + t.getD s2 0 ≤ t.getD i 0
      · (repeat (first | (with_reducible refine AWo.cons ?_) | ((with_reducible refine Step.id ?_); first | ((with_reducible apply Step.move); exact rfl; exact rfl) | ((with_reducible apply Step.assign); exact rfl; exact rfl) | ((with_reducible apply Step.add); exact rfl; exact rfl; (focus (omega)); exact rfl)) | (with_reducible refine AWo.nil ?_) | ((with_reducible apply Then.n)) | ((with_reducible apply AW.regL)) | ((with_reducible apply InBlk.n)) | ((with_reducible apply AW.skip)) | ((with_reducible apply AW.condF); exact rfl; (focus ((simp only [decide_eq_true_eq, decide_eq_false_iff_not, Bool.not_eq_true', Bool.not_eq_false', Bool.not_true, Bool.not_false]; first | assumption | omega))))))
        exact ⟨_, _, _, by omega, (Or.inl ⟨rfl, (by repeat (first | exact trivial | (refine And.intro rfl ?_)))⟩), k + 1, rfl, by omega, rfl, by rw [hstk, hck, decide_eq_true hc]; rfl, rfl⟩
      · have hno := cutOk_no (n := r.len false - 1) (w := bw B) (h := bh B) (t := t) (r := r) (d := false) (i := k) (by omega) (by rw [hstk, decide_eq_false hc, Bool.and_false])
        have e := hbn r hrm (by rw [hkr, hno]; simp)
        (repeat (first | (with_reducible refine AWo.cons ?_) | ((with_reducible refine Step.id ?_); ((with_reducible apply Step.assign); exact rfl; exact rfl)) | (with_reducible refine AWo.nil ?_) | ((with_reducible apply AW.seq)) | ((with_reducible apply Then.n)) | ((with_reducible apply AW.regL)) | ((with_reducible apply AW.condT); exact rfl; (focus ((simp only [decide_eq_true_eq, decide_eq_false_iff_not, Bool.not_eq_true', Bool.not_eq_false', Bool.not_true, Bool.not_false]; first | assumption | omega))))))
        (refine AW.retD (l := [(6, _)]) (by repeat (first | exact trivial | (refine And.intro ⟨rfl, by (exact .bool _)⟩ ?_))) ?_; (repeat (first | refine Then.r ?_ | refine InBlk.r ?_)))
        exact ⟨_, rfl, by rw [e], rfl⟩
    have hkfalse : k + 1 = r.len false := by omega
    have hckfalse : cutOk (bw B) (bh B) t r false (r.len false - 1) = true := by rw [← hkfalse, Nat.add_sub_cancel]; exact hck
    clear hck
    have hokr : okR (leafM B K) (bw B) (bh B) t r = true := by rw [hkr, hcktrue, hckfalse, decide_eq_true (by omega)]; rfl
    (repeat (first | (with_reducible refine AWo.cons ?_) | ((with_reducible refine Step.id ?_); first | ((with_reducible apply Step.move); exact rfl; exact rfl) | ((with_reducible apply Step.load); exact rfl; (focus (decide +kernel)); exact rfl; (focus (exact r93 _ _))) | ((with_reducible apply Step.field (k := 3)); exact rfl; (focus (decide +kernel)); exact rfl) | ((with_reducible apply Step.add); exact rfl; exact rfl; (focus (omega)); exact rfl) | ((with_reducible apply Step.lss); exact rfl; exact rfl; exact rfl)) | (with_reducible refine AWo.nil ?_) | ((with_reducible apply AW.seq)) | ((with_reducible apply Then.n)) | ((with_reducible apply AW.regL)) | ((with_reducible apply AW.exit)) | ((with_reducible apply InBlk.n)) | ((with_reducible apply InBlk.hit)) | ((with_reducible apply Then.e)) | ((with_reducible apply AW.condF); exact rfl; (focus ((simp only [decide_eq_true_eq, decide_eq_false_iff_not, Bool.not_eq_true', Bool.not_eq_false', Bool.not_true, Bool.not_false]; first | assumption | omega))))))
    exact ⟨_, [(0, .slice q1 B.length c1), (1, .slice q2 K.length c2), (2, .slice q t.length c), (7, .int .i64 (bw B : Nat)), (8, .int .i64 (bh B : Nat)), (34, gv (m.length + 0) R.length), (35, .int .i64 (R.length : Nat)), (36, .int .i64 (i + 1 : Nat))], [gb (rvc R) 4], by omega, (Back.trim rfl rfl (by repeat (first | exact CellsOk.nil | refine CellsOk.gb (by assumption) ?_)) (by repeat (first | exact trivial | (refine And.intro ⟨rfl, by (first | exact Low.rid (by assumption) (by simp) | exact .int _ _ | exact Ren.of_gv (by first | (simp; done) | omega | (simp; omega)))⟩ ?_)))), i + 1, rfl, by omega, rfl, fun j hj => by
      rcases Nat.lt_succ_iff_lt_or_eq.1 hj with h | rfl
      · exact hok j h
      · rw [hgd]; exact hokr, rfl⟩
  · obtain rfl : i = R.length := by omega
    (repeat (first | (with_reducible refine AWo.cons ?_) | ((with_reducible refine Step.id ?_); first | ((with_reducible apply Step.assign); exact rfl; exact rfl) | ((with_reducible apply Step.lss); exact rfl; exact rfl; exact rfl)) | (with_reducible refine AWo.nil ?_) | ((with_reducible apply AW.seq)) | ((with_reducible apply Then.n)) | ((with_reducible apply AW.regL)) | ((with_reducible apply AW.exit)) | ((with_reducible apply InBlk.hit)) | ((with_reducible apply Then.e)) | ((with_reducible apply AW.condF); exact rfl; (focus ((simp only [decide_eq_true_eq, decide_eq_false_iff_not, Bool.not_eq_true', Bool.not_eq_false', Bool.not_true, Bool.not_false]; first | assumption | omega))))))
    (refine AW.retD (l := [(6, _)]) (by repeat (first | exact trivial | (refine And.intro ⟨rfl, by (exact .bool _)⟩ ?_))) ?_; (repeat (first | refine Then.r ?_ | refine InBlk.r ?_)))
    exact ⟨_, rfl, by rw [hby hok], rfl⟩
end Go.Proofs.YtibhgdglbillaaaDoor.Abs
namespace Go.Proofs.YtibhgdglbillaaaDoor.Abs
set_option linter.unusedSimpArgs false
set_option linter.unusedVariables false
open Go.RowKit
open Go.Proofs.YtibhgdglbillaaaDoor.Sim
open Go.Proofs
set_option maxHeartbeats 4000000 in
set_option maxRecDepth 100000 in
theorem RCheck_ok {m : AM} {sv kv tv : Value} {B : Brd} {K : List Kd} {t : List Int} (hs : Strs m sv B) (hk : Kds m kv K) (ht : Ints m tv t) (h64 : I64s t) :
    ACall Tryd.prog 31 #[sv, kv, tv] m (Ret (chV (checkM B K t)) m) := by
  have hG := fun T => RGood_ok (hs.old T) (hk.old T)
  cases hg : goodB B K with
  | false =>
    rw [hg] at hG
    have e : checkM B K t = (0, false, 2) := by simp [checkM, hg]
    refine ACall.start Tryd.func31 rfl rfl ?_
    (repeat (first | (with_reducible refine AWo.cons ?_) | ((with_reducible refine Step.id ?_); first | ((with_reducible apply Step.move); exact rfl; exact rfl) | ((with_reducible apply Step.assign); exact rfl; exact rfl) | ((with_reducible apply Step.not); exact rfl; exact rfl) | ((with_reducible apply Step.callR fit); exact rfl; exact Tryd.func24; exact rfl; exact rfl; exact (hG _))) | (with_reducible refine AWo.nil ?_) | ((with_reducible apply AW.seq)) | ((with_reducible apply Then.n)) | ((with_reducible apply AW.regL)) | ((with_reducible apply AW.condT); exact rfl; (focus (rfl)))))
    (refine AW.retD (l := [(6, _), (7, _), (8, _)]) (by repeat (first | exact trivial | (refine And.intro ⟨rfl, by (first | exact .int _ _ | exact .bool _)⟩ ?_))) ?_; (repeat (first | refine Then.r ?_ | refine InBlk.r ?_)))
    exact ⟨_, rfl, by rw [e]; rfl, rfl⟩
  | true =>
  rw [hg] at hG
  have hgb : boardB B = true := by simp only [goodB, Bool.and_eq_true] at hg; exact hg.1
  have hin := good_in hgb
  have hR := fun m => RRects_ok (m := m) (bw B : Nat) (bh B : Nat)
  rw [total_rects hg] at hR
  have hb0 : 0 < B.length := hin.1
  have hbw : (rowOf B 0).size = bw B := rfl
  have hBd := fun (hl : t.length = total (bw B) (bh B)) T => Bound_ok (hs.old T) (hk.old T) (ht.old T) h64 hg hl
  obtain ⟨A1, O1, sl1, la1, rd1⟩ := hs
  have r0 := rd1 0 hb0
  obtain ⟨A, O, sl, la, rd⟩ := ht
  have hok : (wholeR B).ok (bw B) (bh B) := by simp only [R4.ok, wholeR]; omega
  have nn := fun T => place_ok' (m := T) hin.2.2.2 hin.2.1 hok
  change ∀ T, ACall Tryd.prog 64 #[_, _, .agg #[.int .i64 0, .int .i64 0, .int .i64 (bw B : Nat), .int .i64 (bh B : Nat)]] _ _ at nn
  have hat := at_lt hin.2.2.2 hin.2.1 hok
  have htg : tg (bw B) (bh B) t (wholeR B) = t.getD ((wholeR B).at (bw B) (bh B)) 0 := rfl
  refine ACall.start Tryd.func31 rfl rfl ?_
  by_cases hl : t.length = total (bw B) (bh B)
  · have hBd := hBd hl
    have rw0 := rd _ (by rw [hl]; exact hat)
    cases hb : boundB (leafM B K) (bw B) (bh B) t with
    | false =>
      rw [hb] at hBd
      have e : checkM B K t = (0, false, 0) := by simp [checkM, hg, hl, hb]
      (repeat (first | (with_reducible refine AWo.cons ?_) | ((with_reducible refine Step.id ?_); first | ((with_reducible apply Step.move); exact rfl; exact rfl) | ((with_reducible apply Step.assign); exact rfl; exact rfl) | ((with_reducible apply Step.load); exact rfl; (focus (decide +kernel)); exact rfl; (focus (exact Rd.old _ (by assumption)))) | ((with_reducible apply Step.ix1); exact rfl; (focus (assumption)); exact rfl; (focus (decide +kernel)); exact rfl; (focus (omega))) | ((with_reducible apply Step.lenS); exact rfl; exact un9; exact rfl) | ((with_reducible apply Step.neq); exact rfl; exact rfl; exact rfl) | ((with_reducible apply Step.len); exact rfl; (focus (assumption)); (focus (decide +kernel)); exact rfl) | ((with_reducible apply Step.not); exact rfl; exact rfl) | ((with_reducible apply Step.extract); exact rfl; exact rfl; exact rfl) | ((with_reducible apply Step.callR fit); exact rfl; exact Tryd.func24; exact rfl; exact rfl; exact (hG _)) | ((with_reducible apply Step.callR fit); exact rfl; exact Tryd.func18; exact rfl; exact rfl; exact (hR _)) | ((with_reducible apply Step.callR fit); exact rfl; exact Tryd.func82; exact rfl; exact rfl; exact (hBd _))) | (with_reducible refine AWo.nil ?_) | ((with_reducible apply AW.seq)) | ((with_reducible apply Then.n)) | ((with_reducible apply AW.regL)) | ((with_reducible apply AW.skip)) | ((with_reducible apply AW.condT); exact rfl; (focus (rfl))) | ((with_reducible apply AW.condF); exact rfl; (focus (first | rfl | (simp only [decide_eq_true_eq, decide_eq_false_iff_not, Bool.not_eq_true', Bool.not_eq_false', Bool.not_true, Bool.not_false]; first | assumption | omega))))))
      (refine AW.retD (l := [(6, _), (7, _), (8, _)]) (by repeat (first | exact trivial | (refine And.intro ⟨rfl, by (first | exact .int _ _ | exact .bool _)⟩ ?_))) ?_; (repeat (first | refine Then.r ?_ | refine InBlk.r ?_)))
      exact ⟨_, rfl, by rw [e]; rfl, rfl⟩
    | true =>
      rw [hb] at hBd
      have e : checkM B K t = (tg (bw B) (bh B) t (wholeR B), true, 0) := by simp [checkM, hg, hl, hb]
      rw [e, htg]
      rw [← hl] at hat
      generalize (wholeR B).at (bw B) (bh B) = n at *
      (repeat (first | (with_reducible refine AWo.cons ?_) | ((with_reducible refine Step.id ?_); first | ((with_reducible apply Step.move); exact rfl; exact rfl) | ((with_reducible apply Step.assign); exact rfl; exact rfl) | ((with_reducible apply Step.load); exact rfl; (focus (decide +kernel)); exact rfl; (focus (exact Rd.old _ (by assumption)))) | ((with_reducible apply Step.ix1); exact rfl; (focus (assumption)); exact rfl; (focus (decide +kernel)); exact rfl; (focus (omega))) | ((with_reducible apply Step.lenS); exact rfl; exact un9; exact rfl) | ((with_reducible apply Step.neq); exact rfl; exact rfl; exact rfl) | ((with_reducible apply Step.len); exact rfl; (focus (assumption)); (focus (decide +kernel)); exact rfl) | ((with_reducible apply Step.not); exact rfl; exact rfl) | ((with_reducible apply Step.extract); exact rfl; exact rfl; exact rfl) | ((with_reducible apply Step.callR fit); exact rfl; exact Tryd.func24; exact rfl; exact rfl; exact (hG _)) | ((with_reducible apply Step.callR fit); exact rfl; exact Tryd.func18; exact rfl; exact rfl; exact (hR _)) | ((with_reducible apply Step.callR fit); exact rfl; exact Tryd.func82; exact rfl; exact rfl; exact (hBd _)) | ((with_reducible apply Step.callR fit); exact rfl; exact Tryd.func64; exact rfl; exact rfl; exact (nn _)) | ((with_reducible apply Step.build); exact rfl; exact bl23w; exact rfl)) | (with_reducible refine AWo.nil ?_) | ((with_reducible apply AW.seq)) | ((with_reducible apply Then.n)) | ((with_reducible apply AW.regL)) | ((with_reducible apply AW.skip)) | ((with_reducible apply AW.condF); exact rfl; (focus (first | rfl | (simp only [decide_eq_true_eq, decide_eq_false_iff_not, Bool.not_eq_true', Bool.not_eq_false', Bool.not_true, Bool.not_false]; first | assumption | omega))))))
      (refine AW.retD (l := [(6, _), (7, _), (8, _)]) (by repeat (first | exact trivial | (refine And.intro ⟨rfl, by (first | exact .int _ _ | exact .bool _)⟩ ?_))) ?_; (repeat (first | refine Then.r ?_ | refine InBlk.r ?_)))
      exact ⟨_, rfl, rfl, rfl⟩
  · have e : checkM B K t = (0, false, 3) := by simp [checkM, hg, hl]
    (repeat (first | (with_reducible refine AWo.cons ?_) | ((with_reducible refine Step.id ?_); first | ((with_reducible apply Step.move); exact rfl; exact rfl) | ((with_reducible apply Step.assign); exact rfl; exact rfl) | ((with_reducible apply Step.load); exact rfl; (focus (decide +kernel)); exact rfl; (focus (exact Rd.old _ (by assumption)))) | ((with_reducible apply Step.ix1); exact rfl; (focus (assumption)); exact rfl; (focus (decide +kernel)); exact rfl; (focus (omega))) | ((with_reducible apply Step.lenS); exact rfl; exact un9; exact rfl) | ((with_reducible apply Step.neq); exact rfl; exact rfl; exact rfl) | ((with_reducible apply Step.len); exact rfl; (focus (assumption)); (focus (decide +kernel)); exact rfl) | ((with_reducible apply Step.not); exact rfl; exact rfl) | ((with_reducible apply Step.extract); exact rfl; exact rfl; exact rfl) | ((with_reducible apply Step.callR fit); exact rfl; exact Tryd.func24; exact rfl; exact rfl; exact (hG _)) | ((with_reducible apply Step.callR fit); exact rfl; exact Tryd.func18; exact rfl; exact rfl; exact (hR _))) | (with_reducible refine AWo.nil ?_) | ((with_reducible apply AW.seq)) | ((with_reducible apply Then.n)) | ((with_reducible apply AW.regL)) | ((with_reducible apply AW.skip)) | ((with_reducible apply AW.condT); exact rfl; (focus ((simp only [decide_eq_true_eq, decide_eq_false_iff_not, Bool.not_eq_true', Bool.not_eq_false', Bool.not_true, Bool.not_false]; first | assumption | omega)))) | ((with_reducible apply AW.condF); exact rfl; (focus (rfl)))))
    (refine AW.retD (l := [(6, _), (7, _), (8, _)]) (by repeat (first | exact trivial | (refine And.intro ⟨rfl, by (first | exact .int _ _ | exact .bool _)⟩ ?_))) ?_; (repeat (first | refine Then.r ?_ | refine InBlk.r ?_)))
    exact ⟨_, rfl, by rw [e]; rfl, rfl⟩
end Go.Proofs.YtibhgdglbillaaaDoor.Abs
namespace Go.Proofs.YtibhgdglbillaaaDoor.Abs
set_option linter.unusedSimpArgs false
set_option linter.unusedVariables false
open Go.RowKit
open Go.Proofs.YtibhgdglbillaaaDoor.Sim
open Go.Proofs
set_option maxHeartbeats 4000000 in
set_option maxRecDepth 100000 in
theorem RBest_ok {m : AM} {sv kv : Value} {B : Brd} {K : List Kd} (hs : Strs m sv B) (hk : Kds m kv K) (hg : goodB B K = true) :
    ACall Tryd.prog 33 #[sv, kv] m (Ret (.tuple #[.int .i64 (bestM B K), .int .i64 0]) m) := by
  have hG := fun T => RGood_ok (hs.old T) (hk.old T)
  rw [hg] at hG
  have hT := fun T => Table_ok (hs.old T) (hk.old T) hg
  have hgb : boardB B = true := by simp only [goodB, Bool.and_eq_true] at hg; exact hg.1
  have hin := good_in hgb
  have hok : (wholeR B).ok (bw B) (bh B) := by simp only [R4.ok, wholeR]; omega
  have nn := fun T => place_ok' (m := T) hin.2.2.2 hin.2.1 hok
  change ∀ T, ACall Tryd.prog 64 #[_, _, .agg #[.int .i64 0, .int .i64 0, .int .i64 (bw B : Nat), .int .i64 (bh B : Nat)]] _ _ at nn
  have hat := at_lt hin.2.2.2 hin.2.1 hok
  have hlen : (boardT B K).length = total (bw B) (bh B) := (bestT_ok hin.2.2.2 hin.2.1).len
  have hb0 : 0 < B.length := hin.1
  obtain ⟨A1, O1, sl1, la1, rd1⟩ := hs
  have r0 := rd1 0 hb0
  have rt : ∀ T : AM, Rd (m ++ (some { cells := iv (boardT B K) } :: T)) (m.length + 0) ((wholeR B).at (bw B) (bh B)) (.int .i64 ((boardT B K).getD ((wholeR B).at (bw B) (bh B)) 0)) := fun T => Rd.new rfl (iv_get (by omega))
  have hbm : bestM B K = (boardT B K).getD ((wholeR B).at (bw B) (bh B)) 0 := rfl
  rw [hbm]
  generalize (wholeR B).at (bw B) (bh B) = n at *
  refine ACall.start Tryd.func33 rfl rfl ?_
  (repeat (first | (with_reducible refine AWo.cons ?_) | ((with_reducible refine Step.id ?_); first | ((with_reducible apply Step.move); exact rfl; exact rfl) | ((with_reducible apply Step.assign); exact rfl; exact rfl) | ((with_reducible apply Step.load); exact rfl; (focus (decide +kernel)); exact rfl; (focus (first | exact rt _ | exact Rd.old _ (by assumption)))) | ((with_reducible apply Step.ix1z); exact rfl; (focus (exact Sl.mk (by omega))); exact rfl; (focus (decide +kernel)); exact rfl; (focus (omega))) | ((with_reducible apply Step.ix1); exact rfl; (focus (assumption)); exact rfl; (focus (decide +kernel)); exact rfl; (focus (omega))) | ((with_reducible apply Step.lenS); exact rfl; exact un9; exact rfl) | ((with_reducible apply Step.len); exact rfl; (focus (assumption)); (focus (decide +kernel)); exact rfl) | ((with_reducible apply Step.not); exact rfl; exact rfl) | ((with_reducible apply Step.callR fit); exact rfl; exact Tryd.func24; exact rfl; exact rfl; exact (hG _)) | ((with_reducible apply Step.callN fit (k := 0)); exact rfl; exact rfl; exact Tryd.func83; exact rfl; exact rfl; exact (hT _); (focus (first | (simp only [List.nil_append, List.cons_append, List.set_cons_zero, List.set_cons_succ, iv_set, bv_set, iv_rep, bv_rep]; done) | (simp only [List.nil_append, List.cons_append, List.set_cons_zero, List.set_cons_succ, iv_set, bv_set, iv_rep, bv_rep]; rfl) | rfl))) | ((with_reducible apply Step.callR fit); exact rfl; exact Tryd.func64; exact rfl; exact rfl; exact (nn _)) | ((with_reducible apply Step.build); exact rfl; exact bl23w; exact rfl)) | (with_reducible refine AWo.nil ?_) | ((with_reducible apply AW.seq)) | ((with_reducible apply Then.n)) | ((with_reducible apply AW.regL)) | ((with_reducible apply AW.drawL fit); (focus (decide +kernel))) | ((with_reducible apply AW.skip)) | ((with_reducible apply AW.condF); exact rfl; (focus (rfl)))))
  (refine AW.retD (l := [(4, _), (5, _)]) (by repeat (first | exact trivial | (refine And.intro ⟨rfl, by (exact .int _ _)⟩ ?_))) ?_; (repeat (first | refine Then.r ?_ | refine InBlk.r ?_)))
  exact ⟨_, rfl, rfl, rfl⟩
theorem table_I64 {B : Brd} {K : List Kd} (hg : goodB B K = true) : I64s (boardT B K) := by
  have hgb : boardB B = true := by simp only [goodB, Bool.and_eq_true] at hg; exact hg.1
  have hin := good_in hgb
  intro i
  have := (bestT_ok (leaf := leafM B K) hin.2.2.2 hin.2.1).fair (fun r hd => by have := V_in hg hd; omega) i
  show -9223372036854775808 ≤ (bestT _ _ _).getD i 0 ∧ (bestT _ _ _).getD i 0 ≤ _
  omega
theorem table_bound {B : Brd} {K : List Kd} (hg : goodB B K = true) : checkM B K (boardT B K) = (bestM B K, true, 0) := by
  have hgb : boardB B = true := by simp only [goodB, Bool.and_eq_true] at hg; exact hg.1
  have hin := good_in hgb
  have hT := bestT_ok (leaf := leafM B K) hin.2.2.2 hin.2.1
  have hlen : (boardT B K).length = total (bw B) (bh B) := hT.len
  have hf := hT.fair (fun r hd => by have := V_in hg hd; omega)
  have hb : boundB (leafM B K) (bw B) (bh B) (boardT B K) = true := by
    simp only [boundB, Bool.and_eq_true, List.all_eq_true, decide_eq_true_eq]
    refine ⟨fun x hx => ?_, fun r hr => ?_⟩
    · obtain ⟨i, hi, rfl⟩ := List.getElem_of_mem hx
      have := (hf i).1
      change 0 ≤ (boardT B K).getD i 0 at this
      rwa [getD_in _ _ hi] at this
    · have hok := mem_all.1 hr
      have e : ∀ r' : R4, r'.ok (bw B) (bh B) → tg (bw B) (bh B) (boardT B K) r' = V (leafM B K) r' := hT.dn
      have hcut : ∀ d, cutOk (bw B) (bh B) (boardT B K) r d (r.len d - 1) = true := fun d => by
        refine cutOk_iff.2 fun i h1 h2 => ?_
        have h3 : i + 1 ≤ r.len d := by omega
        rw [e _ (lo_ok hok h1 h3), e _ (hi_ok hok h1 h3), e _ hok]
        exact Int.le_trans (le_mxc (f := fun i => V (leafM B K) (r.lo d i) + V (leafM B K) (r.hi d i)) _ i h1 h2) (cut_le_V hok d)
      unfold okR
      rw [hcut, hcut, e _ hok, decide_eq_true (leaf_le_V hok)]
      rfl
  simp [checkM, hg, hlen, hb, bestM]
set_option maxRecDepth 100000 in
theorem Prove_no {m : AM} {sv kv : Value} {B : Brd} {K : List Kd} (hs : Strs m sv B) (hk : Kds m kv K) (hg : goodB B K = false) :
    ACall Tryd.prog 32 #[sv, kv] m (Ret (.tuple #[.slice none 0 0, .int .i64 2]) m) := by
  have hN := fun T => newBoard_no (hs.old T) (hk.old T) hg
  refine ACall.start Tryd.func32 rfl rfl ?_
  (repeat (first | (with_reducible refine AWo.cons ?_) | ((with_reducible refine Step.id ?_); first | ((with_reducible apply Step.move); exact rfl; exact rfl) | ((with_reducible apply Step.assign); exact rfl; exact rfl) | ((with_reducible apply Step.ptrNil); exact rfl; exact rfl; exact un100; exact rfl) | ((with_reducible apply Step.callR fit); exact rfl; exact Tryd.func65; exact rfl; exact rfl; exact (hN _))) | (with_reducible refine AWo.nil ?_) | ((with_reducible apply AW.seq)) | ((with_reducible apply Then.n)) | ((with_reducible apply AW.regL)) | ((with_reducible apply AW.condT); exact rfl; (focus (rfl)))))
  (refine AW.retD (l := [(4, _), (5, _)]) (by repeat (first | exact trivial | (refine And.intro ⟨rfl, by (first | exact .int _ _ | exact Ren.of_g0 rfl)⟩ ?_))) ?_; (repeat (first | refine Then.r ?_ | refine InBlk.r ?_)))
  exact ⟨_, rfl, rfl, rfl⟩
set_option maxRecDepth 100000 in
theorem Prove_ok {m : AM} {sv kv : Value} {B : Brd} {K : List Kd} (hs : Strs m sv B) (hk : Kds m kv K) (hg : goodB B K = true) :
    ACall Tryd.prog 32 #[sv, kv] m (More (fun m' v => ∃ q, v = .tuple #[.slice (some ⟨q, 0, none⟩) (total (bw B) (bh B)) (total (bw B) (bh B)), .int .i64 0] ∧ m'[q]? = some (some { cells := iv (boardT B K) })) m) := by
  refine ACall.start Tryd.func32 rfl rfl ?_
  (repeat (first | (with_reducible refine AWo.cons ?_) | ((with_reducible refine Step.id ?_); first | ((with_reducible apply Step.move); exact rfl; exact rfl) | ((with_reducible apply Step.assign); exact rfl; exact rfl)) | (with_reducible refine AWo.nil ?_) | ((with_reducible apply AW.seq)) | ((with_reducible apply Then.n)) | ((with_reducible apply AW.regL))))
  ((with_reducible apply Step.callX fit); exact rfl; exact Tryd.func65; exact rfl; exact rfl; exact (newBoard_ok (hs.old _) (hk.old _) hg))
  rintro v m1 ⟨N1, hN1⟩ ⟨p, hp, rfl, hB⟩
  (repeat (first | (with_reducible refine AWo.cons ?_) | ((with_reducible refine Step.id ?_); first | ((with_reducible apply Step.move); exact rfl; exact rfl) | ((with_reducible apply Step.assign); exact rfl; exact rfl) | ((with_reducible apply Step.ptrNot); exact rfl; exact rfl; exact un100; exact rfl)) | (with_reducible refine AWo.nil ?_) | ((with_reducible apply AW.seq)) | ((with_reducible apply Then.n)) | ((with_reducible apply AW.regL)) | ((with_reducible apply AW.skip)) | ((with_reducible apply AW.condF); exact rfl; (focus (rfl)))))
  ((with_reducible apply Step.callX fit); exact rfl; exact Tryd.func66; exact rfl; exact rfl; exact (best_ok (hB.old _) hg))
  rintro v m2 ⟨N2, hN2⟩ ⟨q, hq, rfl, hqc⟩
  (repeat (first | (with_reducible refine AWo.cons ?_) | ((with_reducible refine Step.id ?_); ((with_reducible apply Step.assign); exact rfl; exact rfl)) | (with_reducible refine AWo.nil ?_) | ((with_reducible apply Then.n))))
  (refine AW.ret ?_; (repeat (first | refine Then.r ?_ | refine InBlk.r ?_)))
  exact ⟨_, rfl, N1 ++ N2, by rw [hN2, hN1]; simp, q, rfl, by rw [List.append_nil]; exact hqc⟩
set_option maxHeartbeats 4000000 in
set_option maxRecDepth 100000 in
theorem CutProves_ok {m : AM} {sv kv : Value} {B : Brd} {K : List Kd} (hs : Strs m sv B) (hk : Kds m kv K) (hkl : K.length ≤ 9223372036854775807) :
    ACall Tryd.prog 8 #[sv, kv] m (Ret (.bool true) m) := by
  have h3 := fun T => of_ok (hk.old T) hkl
  have hG := fun T => RGood_ok (hs.old T) (hk.old T)
  refine ACall.drop (.bool _) ?_
  refine ACall.start Tryd.func8 rfl rfl ?_
  cases hg : goodB B K with
  | false =>
    rw [hg] at hG
    have h1 := fun T => Prove_no (m := m ++ (gb (kvc (K.take 14)) 5 :: T)) (hs.old _) (kds_gv m (K.take 14) T) (by rw [good_take]; exact hg)
    (repeat (first | (with_reducible refine AWo.cons ?_) | ((with_reducible refine Step.id ?_); first | ((with_reducible apply Step.gdT); exact rfl; exact rfl; (focus (rfl))) | ((with_reducible apply Step.move); exact rfl; exact rfl) | ((with_reducible apply Step.assign); exact rfl; exact rfl) | ((with_reducible apply Step.eql); exact rfl; exact rfl; exact rfl) | ((with_reducible apply Step.len); exact rfl; (focus (exact Sl.nil 0 0)); (focus (decide +kernel)); exact rfl) | ((with_reducible apply Step.not); exact rfl; exact rfl) | ((with_reducible apply Step.extract); exact rfl; exact rfl; exact rfl) | ((with_reducible apply Step.pickT); exact rfl; exact rfl; exact rfl; exact rfl; (focus (rfl))) | ((with_reducible apply Step.callG fit (k := 0)); exact rfl; exact rfl; exact Tryd.func23; exact rfl; exact rfl; exact (h3 _); (focus (first | (simp only [List.nil_append, List.cons_append, List.set_cons_zero, List.set_cons_succ, iv_set, bv_set, iv_rep, bv_rep]; done) | (simp only [List.nil_append, List.cons_append, List.set_cons_zero, List.set_cons_succ, iv_set, bv_set, iv_rep, bv_rep]; rfl) | rfl))) | ((with_reducible apply Step.callR fit); exact rfl; exact Tryd.func32; exact rfl; exact rfl; exact (h1 _)) | ((with_reducible apply Step.callR fit); exact rfl; exact Tryd.func24; exact rfl; exact rfl; exact (hG _)) | ((with_reducible apply Step.callR fit); exact rfl; exact Tryd.func21; exact rfl; exact rfl; exact (awake_ok))) | (with_reducible refine AWo.nil ?_) | ((with_reducible apply AW.seq)) | ((with_reducible apply Then.n)) | ((with_reducible apply AW.regL)) | ((with_reducible apply AW.condT); exact rfl; (focus (rfl)))))
    (refine AW.ret ?_; (repeat (first | refine Then.r ?_ | refine InBlk.r ?_)))
    exact ⟨_, rfl, rfl, _, rfl⟩
  | true =>
    rw [hg] at hG
    rw [good_len hg] at h3
    (repeat (first | (with_reducible refine AWo.cons ?_) | ((with_reducible refine Step.id ?_); first | ((with_reducible apply Step.move); exact rfl; exact rfl) | ((with_reducible apply Step.assign); exact rfl; exact rfl) | ((with_reducible apply Step.callG fit (k := 0)); exact rfl; exact rfl; exact Tryd.func23; exact rfl; exact rfl; exact (h3 _); (focus (first | (simp only [List.nil_append, List.cons_append, List.set_cons_zero, List.set_cons_succ, iv_set, bv_set, iv_rep, bv_rep]; done) | (simp only [List.nil_append, List.cons_append, List.set_cons_zero, List.set_cons_succ, iv_set, bv_set, iv_rep, bv_rep]; rfl) | rfl)))) | (with_reducible refine AWo.nil ?_) | ((with_reducible apply AW.seq)) | ((with_reducible apply Then.n)) | ((with_reducible apply AW.regL))))
    ((with_reducible apply Step.callX fit); exact rfl; exact Tryd.func32; exact rfl; exact rfl; exact (Prove_ok (m := m ++ [gb (kvc K) 5]) (hs.old _) (kds_gv m K []) hg))
    rintro v m1 ⟨N1, hN1⟩ ⟨q, rfl, hqc⟩
    have hm1 : ∃ N, m1 = m ++ N := ⟨_, by rw [hN1, List.append_assoc]⟩
    have s1 : Strs m1 sv B := by obtain ⟨N, hN⟩ := hm1; rw [hN]; exact hs.old N
    have k1 : Kds m1 kv K := by obtain ⟨N, hN⟩ := hm1; rw [hN]; exact hk.old N
    clear hN1
    have hgb : boardB B = true := by simp only [goodB, Bool.and_eq_true] at hg; exact hg.1
    have hin := good_in hgb
    have hlen : (boardT B K).length = total (bw B) (bh B) := (bestT_ok hin.2.2.2 hin.2.1).len
    have t1 : Ints m1 (.slice (some ⟨q, 0, none⟩) (total (bw B) (bh B)) (total (bw B) (bh B))) (boardT B K) := ints_at hqc rfl _ hlen.symm
    have e1 := fun T => RGood_ok (s1.old T) (k1.old T)
    have e2 := fun T => RBest_ok (s1.old T) (k1.old T) hg
    have e3 := fun T => RCheck_ok (s1.old T) (k1.old T) (t1.old T) (table_I64 hg)
    have e4 := fun T => of_ok (k1.old T) hkl
    have e5 := fun T => Check_ok (m := m1 ++ (gb (kvc K) 5 :: T)) (s1.old _) (kds_gv m1 K T) (t1.old _) (table_I64 hg)
    rw [good_len hg] at e4
    rw [hg] at e1
    rw [table_bound hg] at e3 e5
    simp only [chV] at e3 e5
    generalize bestM B K = bm at *
    (repeat (first | (with_reducible refine AWo.cons ?_) | ((with_reducible refine Step.id ?_); first | ((with_reducible apply Step.gdT); exact rfl; exact rfl; (focus (first | rfl | (simp; done)))) | ((with_reducible apply Step.move); exact rfl; exact rfl) | ((with_reducible apply Step.assign); exact rfl; exact rfl) | ((with_reducible apply Step.eql); exact rfl; exact rfl; exact rfl) | ((with_reducible apply Step.not); exact rfl; exact rfl) | ((with_reducible apply Step.extract); exact rfl; exact rfl; exact rfl) | ((with_reducible apply Step.pickT); exact rfl; exact rfl; exact rfl; exact rfl; (focus (first | rfl | (simp; done)))) | ((with_reducible apply Step.callR fit); exact rfl; exact Tryd.func24; exact rfl; exact rfl; exact (e1 _)) | ((with_reducible apply Step.callR fit); exact rfl; exact Tryd.func33; exact rfl; exact rfl; exact (e2 _)) | ((with_reducible apply Step.callR fit); exact rfl; exact Tryd.func31; exact rfl; exact rfl; exact (e3 _)) | ((with_reducible apply Step.callG fit (k := 0)); exact rfl; exact rfl; exact Tryd.func23; exact rfl; exact rfl; exact (e4 _); (focus (first | (simp only [List.nil_append, List.cons_append, List.set_cons_zero, List.set_cons_succ, iv_set, bv_set, iv_rep, bv_rep]; done) | (simp only [List.nil_append, List.cons_append, List.set_cons_zero, List.set_cons_succ, iv_set, bv_set, iv_rep, bv_rep]; rfl) | rfl))) | ((with_reducible apply Step.callR fit); exact rfl; exact Tryd.func30; exact rfl; exact rfl; exact (e5 _)) | ((with_reducible apply Step.callR fit); exact rfl; exact Tryd.func21; exact rfl; exact rfl; exact (awake_ok))) | (with_reducible refine AWo.nil ?_) | ((with_reducible apply AW.seq)) | ((with_reducible apply Then.n)) | ((with_reducible apply AW.regL)) | ((with_reducible apply AW.skip)) | ((with_reducible apply AW.condF); exact rfl; (focus (rfl)))))
    (refine AW.ret ?_; (repeat (first | refine Then.r ?_ | refine InBlk.r ?_)))
    obtain ⟨N, hN⟩ := hm1
    exact ⟨_, rfl, rfl, N ++ _, by rw [hN, List.append_assoc]⟩
end Go.Proofs.YtibhgdglbillaaaDoor.Abs
namespace Go.Proofs.YtibhgdglbillaaaDoor.Abs
set_option linter.unusedSimpArgs false
set_option linter.unusedVariables false
open Go.RowKit
open Go.Proofs.YtibhgdglbillaaaDoor.Sim
open Go.ChangeShapes Go.WideShapes Go.Deep
def RelSelf (v : Value) : Prop := ∃ c, v = .agg c ∧ ∀ R, Rel R (.agg c) (.agg c)
def Okarg3 (W : World) (a : AR) : Prop := Okarg W a ∨ RelSelf a.1
theorem top_call3 {P : Program} {f : FuncId} {W : World} (ars : List AR) (h : ∀ a ∈ ars, Okarg3 W a) (hc : ACall P f (mkVs 0 ars).toArray (ars.map mkB) (Ret (.bool true) (ars.map mkB))) :
    Calls P f (ars.map (·.1)).toArray W fun e w' => e = .returned (.bool true) ∧ Below W.heap.size W w' := by
  let R : Pl := fun i => (ars[i]?).bind mkP
  have hm : MRep W.heap.size R (ars.map mkB) W := by
    refine ⟨fun i hi => ?_, fun i b hi => ?_, fun i j b c p q hi hj hb _ _ _ _ => ?_⟩
    · simp only [List.length_map] at hi
      simp [R, List.getElem?_eq_none hi]
    · rw [List.getElem?_map] at hi
      cases ha : ars[i]? with
      | none => rw [ha] at hi; cases hi
      | some a =>
        rw [ha] at hi
        simp only [Option.map_some, Option.some.injEq] at hi
        obtain ⟨v, c⟩ := a
        rcases h _ (List.mem_of_getElem? ha) with (h1 | ⟨bb, o, n, cap, h1, h2, h3, h4, h5⟩) | ⟨l, h1, hl⟩
        · simp only at h1
          cases v with
          | slice x n cap => cases x with
            | none => simp [mkB] at hi
            | some x => simp [g0] at h1
          | _ => simp [mkB] at hi
        · simp only at h1
          subst h1
          simp only [mkB, Option.some.injEq] at hi
          subst hi
          refine ⟨⟨bb, o, cap - n⟩, by simp [R, ha, mkP], h3, ?_⟩
          refine ⟨fun e => by simp at e, fun j x hj => ⟨x, h4 j x hj, g0_rel (h5 x (List.mem_of_getElem? hj))⟩⟩
        · simp only at h1
          subst h1
          simp [mkB] at hi
    · rw [List.getElem?_map] at hi
      cases ha : ars[i]? with
      | none => rw [ha] at hi; cases hi
      | some a =>
        rw [ha] at hi
        simp only [Option.map_some, Option.some.injEq] at hi
        obtain ⟨v, c'⟩ := a
        cases v with
        | slice x n cap => cases x with
          | none => simp [mkB] at hi
          | some x => simp only [mkB, Option.some.injEq] at hi; subst hi; cases hb
        | _ => simp [mkB] at hi
  have hargs : Rels R (mkVs 0 ars).toArray (ars.map (·.1)).toArray := by
    refine ⟨by simp [mkVs_len], fun i hi => ?_⟩
    simp only [List.size_toArray, mkVs_len] at hi
    have ha : ars[i]? = some ars[i] := List.getElem?_eq_getElem hi
    have e1 : (mkVs 0 ars).toArray.getD i undef = mkV i ars[i].1 := by
      simp [mkVs_get, ha]
    have e2 : (ars.map (·.1)).toArray.getD i undef = ars[i].1 := by simp [hi]
    rw [e1, e2]
    generalize ars[i] = a at ha
    obtain ⟨v, c⟩ := a
    rcases h _ (List.mem_of_getElem? ha) with (h1 | ⟨bb, o, n, cap, h1, h2, h3, h4, h5⟩) | ⟨l, h1, hl⟩
    · simp only at h1 ⊢
      cases v with
      | slice x n cap => cases x with
        | none => exact g0_rel h1
        | some x => simp [g0] at h1
      | _ => exact g0_rel h1
    · simp only at h1 ⊢
      subst h1
      have := Rel.slice (R := R) i 0 n n ⟨bb, o, cap - n⟩ (by simp [R, ha, mkP]) (Nat.le_refl _)
      rw [show n + (cap - n) = cap by omega] at this
      simpa [mkV] using this
    · simp only at h1 ⊢
      subst h1
      exact hl R
  refine (hc W.heap.size R W _ (Nat.le_refl _) hm hargs).mono ?_
  rintro e w' ⟨v, v', R', m', rfl, k1, k2, rfl, rfl⟩
  cases k1
  exact ⟨rfl, k2.below hm (Nat.le_refl _)⟩
theorem RelSelf.rect (r : Rc) : RelSelf r.v := ⟨_, rfl, fun R => rel_aggI R [r.x, r.y, r.w, r.h]⟩
theorem RelSelf.kind (k : Kd) : RelSelf k.v := ⟨_, rfl, fun R => .agg _ _ rfl fun i hi => by
  simp at hi
  rcases (show i = 0 ∨ i = 1 ∨ i = 2 ∨ i = 3 ∨ i = 4 by omega) with rfl | rfl | rfl | rfl | rfl
  · exact .int _ _
  · exact .int _ _
  · exact .int _ _
  · exact .int _ _
  · exact .bool _⟩
def sv (l : List ByteArray) : List Value := l.map .string
def kb (y : List Int × Bool) : List Value := iv y.1 ++ [.bool y.2]
theorem g0_kb (y : List Int × Bool) : ∀ v ∈ kb y, g0 v = true := fun v hv => by
  rcases List.mem_append.1 hv with h | h
  · exact g0_iv _ v h
  · simp at h; subst h; rfl
def kindB (P : Program) (f : Field) : Bool := match P.underlying f.type with | some .bool => true | _ => false
def kindI (P : Program) (f : Field) : Bool := match P.underlying f.type with | some (.int .i64) => true | _ => false
def fieldsKB (P : Program) (fs : Array Field) (q : Nat) : Bool := (List.range q).all (fun j => match fs[j]? with | some f => kindI P f | none => false) && match fs[q]? with | some f => kindB P f | none => false
theorem fieldsKB_int {P : Program} {fs : Array Field} {q j : Nat} {f : Field} (h : fieldsKB P fs q = true) (hj : fs[j]? = some f) (hq : j < q) : P.underlying f.type = some (.int .i64) := by
  simp only [fieldsKB, Bool.and_eq_true] at h
  have := List.all_eq_true.1 h.1 j (List.mem_range.2 hq)
  rw [hj] at this
  simp only [kindI] at this
  split at this
  · assumption
  · cases this
theorem fieldsKB_bool {P : Program} {fs : Array Field} {q : Nat} {f : Field} (h : fieldsKB P fs q = true) (hj : fs[q]? = some f) : P.underlying f.type = some .bool := by
  simp only [fieldsKB, Bool.and_eq_true] at h
  have := h.2
  rw [hj] at this
  simp only [kindB] at this
  split at this
  · assumption
  · cases this
section
variable {H : Type} {enc : TypeId × Value → H} {P : Program} {w : World} {base : Nat} {spare : Nat → Bool} {held : Bool}
theorem arg_strs {r : Reach} {b0 : Nat} {T e : TypeId} {a : Option Addr} {n c : Nat} {d : DataW H} {p : List MemPlace} (ht : P.underlying T = some (.slice e)) (he : P.underlying e = some .string) (hce : P.cellsOf e = 1) (hok : Value.okWide P w r b0 T (.slice a n c)) (h : DataW.Trod enc P w base spare held T (.slice a n c) d p) :
    ∃ l : List ByteArray, l.length = n ∧ n ≤ maxLen ∧ Okarg w (.slice a n c, sv l) ∧ ∀ M : AM, ∀ i, M[i]? = some (mkB (.slice a n c, sv l)) → Strs M (mkV i (.slice a n c)) l := by
  obtain ⟨fuel, h⟩ := h
  rcases ok_slice ht hok with ⟨rfl, rfl, rfl⟩ | ⟨b, o, rfl, hle, hlt⟩
  · exact ⟨[], rfl, by unfold maxLen; omega, .inl rfl, fun M i hi => ⟨i, 0, .inl ⟨rfl, rfl⟩, (List.getElem?_eq_some_iff.1 hi).1, fun k hk => by simp at hk⟩⟩
  · rcases open_strs ht he hce h with ⟨hcs, _⟩ | ⟨x, l, cap, m, S, hcs, _, hl, hm, hmm, _, hcell⟩
    · simp [Value.cells] at hcs
    · simp [Value.cells] at hcs
      obtain ⟨rfl, rfl, rfl⟩ := hcs
      have hnm : n ≤ m := by rw [hmm]; split <;> omega
      refine ⟨(List.range n).map S, by simp, by omega, .inr ⟨b, o, n, c, rfl, hle, hlt, fun j x hj => ?_, fun x hx => ?_⟩, fun M i hM => ?_⟩
      · have hjl := (List.getElem?_eq_some_iff.1 hj).1
        simp [sv] at hjl
        have := (hcell j (by omega)).1
        rw [Addr.add_lit] at this
        rw [this]
        simpa [sv, hjl] using hj
      · simp [sv] at hx
        obtain ⟨k, _, rfl⟩ := hx
        rfl
      · simp only [mkB] at hM
        refine ⟨i, 0, by simpa [mkV] using Sl.mk (Nat.le_refl n), (List.getElem?_eq_some_iff.1 hM).1, fun k hk => ⟨_, hM, ?_⟩⟩
        simp at hk
        simp [sv, rowOf, hk]
theorem arg_kb {r : Reach} {b0 : Nat} {T e : TypeId} {fs : Array Field} {a : Option Addr} {n c : Nat} {d : DataW H} {p : List MemPlace} (ht : P.underlying T = some (.slice e)) (he : P.underlying e = some (.struct fs)) (hone : oneCellFields P fs = true) (hC : P.cellsOf e = fs.size)
    {q : Nat} (hq : fs.size = q + 1) (hi : fieldsKB P fs q = true) (hok : Value.okWide P w r b0 T (.slice a n c)) (h : DataW.Trod enc P w base spare held T (.slice a n c) d p) :
    ∃ F : Nat → List Int × Bool, (∀ k, (F k).1.length = q) ∧ n ≤ maxLen ∧ Okarg w (.slice a n c, (List.range n).flatMap fun k => kb (F k)) ∧ (∀ M : AM, ∀ i, M[i]? = some (mkB (.slice a n c, (List.range n).flatMap fun k => kb (F k))) → Sl (mkV i (.slice a n c)) i 0 n ∧ i < M.length ∧ ∀ k, k < n → RdL M i (0 + k * fs.size) (kb (F k))) := by
  obtain ⟨fuel, h⟩ := h
  rcases ok_slice ht hok with ⟨rfl, rfl, rfl⟩ | ⟨b, o, rfl, hle, hlt⟩
  · exact ⟨fun _ => (List.replicate q 0, false), fun _ => by simp, by unfold maxLen; omega, .inl rfl, fun M i hi => ⟨.inl ⟨rfl, rfl⟩, (List.getElem?_eq_some_iff.1 hi).1, fun k hk => by omega⟩⟩
  · rcases open_slice_fields ht he hone hC h with ⟨hcs, _⟩ | ⟨x, l, cap, m, D, Pl, hcs, _, hl, hm, hmm, _, hrow⟩
    · simp [Value.cells] at hcs
    · simp [Value.cells] at hcs
      obtain ⟨rfl, rfl, rfl⟩ := hcs
      have key : ∀ k : Nat, ∃ y : List Int × Bool, y.1.length = q ∧ (k < n → ∀ j v, (kb y)[j]? = some v → w.cell? ⟨b, o + (k * fs.size + j), none⟩ = some v) := fun k => by
        by_cases hk : k < n
        · obtain ⟨ys, nn, _, _, _, hf⟩ := hrow k (by rw [hmm]; split <;> omega)
          have key2 : ∀ j : Nat, ∃ z : Int, j < q → w.cell? ⟨b, o + (k * fs.size + j), none⟩ = some (.int .i64 z) := fun j => by
            by_cases hj : j < q
            · obtain ⟨v, y, h1, _, h3⟩ := hf j fs[j] (Array.getElem?_eq_getElem (by omega))
              obtain ⟨z, hz, _⟩ := DataW.trod_int (fieldsKB_int hi (Array.getElem?_eq_getElem (by omega)) hj) h3
              simp at hz
              subst hz
              rw [Addr.add_lit] at h1
              exact ⟨z, fun _ => h1⟩
            · exact ⟨0, fun h => absurd h hj⟩
          obtain ⟨g, hg⟩ := Classical.axiomOfChoice key2
          obtain ⟨v, y, h1, _, h3⟩ := hf q (fs[q]'(by omega)) (Array.getElem?_eq_getElem (by omega))
          obtain ⟨z, hz, _⟩ := DataW.trod_bool (fieldsKB_bool hi (Array.getElem?_eq_getElem (by omega))) h3
          simp at hz
          subst hz
          rw [Addr.add_lit] at h1
          refine ⟨((List.range q).map g, z), by simp, fun _ j v hj => ?_⟩
          unfold kb at hj
          rcases Nat.lt_trichotomy j q with h | rfl | h
          · rw [List.getElem?_append_left (by simpa [iv] using h), iv_get (by simpa using h)] at hj
            injection hj with hj
            rw [hg j h, ← hj]
            simp [h]
          · rw [List.getElem?_append_right (by simp [iv])] at hj
            simp [iv] at hj
            rw [← hj]; exact h1
          · rw [List.getElem?_eq_none (by simp [iv]; omega)] at hj
            cases hj
        · exact ⟨(List.replicate q 0, false), by simp, fun h => absurd h hk⟩
      obtain ⟨F, hF⟩ := Classical.axiomOfChoice key
      have hlenF : ∀ k, (kb (F k)).length = fs.size := fun k => by unfold kb; rw [List.length_append, iv_len, (hF k).1, hq]; rfl
      have get : ∀ q, ∀ k, k < q → ∀ j v, (kb (F k))[j]? = some v → ((List.range q).flatMap fun k => kb (F k))[k * fs.size + j]? = some v := by
        intro q
        induction q with
        | zero => intro k hk; omega
        | succ q ih =>
          intro k hk j v hj
          have hjl : j < fs.size := by
            have := (List.getElem?_eq_some_iff.1 hj).1
            rwa [hlenF] at this
          have hql : ((List.range q).flatMap fun k => kb (F k)).length = q * fs.size := by
            clear ih hk hj
            induction q with
            | zero => simp
            | succ q ih2 => rw [List.range_succ, List.flatMap_append, List.length_append, ih2]; simp [hlenF, Nat.add_mul]
          rw [List.range_succ, List.flatMap_append]
          rcases Nat.lt_succ_iff_lt_or_eq.1 hk with h' | h'
          · have h2 : k * fs.size + fs.size ≤ q * fs.size := by
              have := Nat.mul_le_mul_right fs.size (show k + 1 ≤ q by omega)
              rw [Nat.add_mul] at this; omega
            rw [List.getElem?_append_left (by rw [hql]; omega)]
            exact ih k h' j v hj
          · subst h'
            rw [List.getElem?_append_right (by rw [hql]; omega), hql, Nat.add_sub_cancel_left]
            simpa using hj
      have tot : ∀ q, ((List.range q).flatMap fun k => kb (F k)).length = q * fs.size := fun q => by
        induction q with
        | zero => simp
        | succ q ih2 => rw [List.range_succ, List.flatMap_append, List.length_append, ih2]; simp [hlenF, Nat.add_mul]
      refine ⟨F, fun k => (hF k).1, by omega, .inr ⟨b, o, n, c, rfl, hle, hlt, fun j x hj => ?_, fun x hx => ?_⟩, fun M i hM => ?_⟩
      · have hjl := (List.getElem?_eq_some_iff.1 hj).1
        simp only at hjl hj
        rw [tot] at hjl
        have hs : 0 < fs.size := by
          rcases Nat.eq_zero_or_pos fs.size with h0 | h0
          · rw [h0] at hjl; omega
          · exact h0
        have hk : j / fs.size < n := (Nat.div_lt_iff_lt_mul hs).2 hjl
        have hr : j % fs.size < fs.size := Nat.mod_lt _ hs
        have e : j = j / fs.size * fs.size + j % fs.size := by rw [Nat.mul_comm]; exact (Nat.div_add_mod j fs.size).symm
        obtain ⟨v, hv⟩ : ∃ v, (kb (F (j / fs.size)))[j % fs.size]? = some v := ⟨_, List.getElem?_eq_getElem (by rw [hlenF]; exact hr)⟩
        have h1 := get n (j / fs.size) hk (j % fs.size) v hv
        rw [← e] at h1
        rw [h1] at hj
        injection hj with hj
        have h2 := (hF (j / fs.size)).2 hk (j % fs.size) v hv
        rw [← e] at h2
        rw [h2, hj]
      · obtain ⟨k, _, hk⟩ := List.mem_flatMap.1 hx
        exact g0_kb _ x hk
      · simp only [mkB] at hM
        refine ⟨Sl.mk (Nat.le_refl _), (List.getElem?_eq_some_iff.1 hM).1, fun k hk => ⟨_, hM, fun j v hj => ?_⟩⟩
        rw [Nat.zero_add]
        exact get n k hk j v hj
def kv (l : List Kd) : List Value := l.flatMap Kd.cells
theorem arg_kinds {r : Reach} {b0 : Nat} {T e : TypeId} {fs : Array Field} {a : Option Addr} {n c : Nat} {d : DataW H} {p : List MemPlace} (ht : P.underlying T = some (.slice e)) (he : P.underlying e = some (.struct fs)) (hone : oneCellFields P fs = true) (hC : P.cellsOf e = fs.size)
    (hq : fs.size = 4 + 1) (hi : fieldsKB P fs 4 = true) (hok : Value.okWide P w r b0 T (.slice a n c)) (h : DataW.Trod enc P w base spare held T (.slice a n c) d p) :
    ∃ l : List Kd, l.length = n ∧ n ≤ maxLen ∧ Okarg w (.slice a n c, kv l) ∧ ∀ M : AM, ∀ i, M[i]? = some (mkB (.slice a n c, kv l)) → Kds M (mkV i (.slice a n c)) l := by
  obtain ⟨F, h1, h2, h3, h4⟩ := arg_kb ht he hone hC hq hi hok h
  have key : ∀ k, ∃ x : Kd, kb (F k) = x.cells := fun k => by
    have hk := h1 k
    generalize F k = y at hk ⊢
    obtain ⟨l, b⟩ := y
    simp only at hk
    match l, hk with
    | [x, y, z, u], _ => exact ⟨⟨x, y, z, u, b⟩, rfl⟩
  obtain ⟨G, hG⟩ := Classical.axiomOfChoice key
  have e : ((List.range n).flatMap fun k => kb (F k)) = kv ((List.range n).map G) := by
    unfold kv
    rw [List.flatMap_map]
    congr 1
    funext k
    exact hG k
  rw [e] at h3 h4
  refine ⟨(List.range n).map G, by simp, h2, h3, fun M i hM => ?_⟩
  obtain ⟨k1, k2, k3⟩ := h4 M i hM
  refine ⟨i, 0, by simpa using k1, k2, fun k hk => ?_⟩
  simp at hk
  have := k3 k hk
  rw [hq, hG k] at this
  have eg : ((List.range n).map G).getD k default = G k := by simp [hk]
  rw [eg]
  exact this
end
end Go.Proofs.YtibhgdglbillaaaDoor.Abs
