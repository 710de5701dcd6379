/- Proved here: what the proof of CutReads rests on, part 5 of 6. Conditions: those that each theorem names. -/
import Derived.Test.YtibhgdglbillaaaDoorCutReadsK4
namespace Go.Proofs.YtibhgdglbillaaaDoor.Abs
set_option linter.unusedSimpArgs false
set_option linter.unusedVariables false
open Go.RowKit
open Go.Proofs.YtibhgdglbillaaaDoor.Sim
open Go.Proofs
theorem ze63 : zeroB Tryd.prog 63 = some #[.int .i64 0, .int .i64 0, .bool false] := by kernel_rfl
theorem ze69 : zeroB Tryd.prog 69 = some #[.slice none 0 0] := by kernel_rfl
theorem ze81 : zeroB Tryd.prog 81 = some #[.int .i64 0, .int .i64 0, .int .i64 0, .int .i64 0, .int .i64 0, .bool false] := by kernel_rfl
set_option maxHeartbeats 4000000 in
set_option maxRecDepth 100000 in
theorem nodes_ok {m : AM} {kv : Value} {K : List Nd} (hk : Nds m kv K) (hlen : K.length ≤ 4294967296) : ACall Tryd.prog 42 #[kv] m (NewG (ndc K) 3 K.length m) := by
  obtain ⟨A, O, sl, la, rd⟩ := hk
  obtain ⟨q, c, rfl⟩ := sl.shape
  have wl : Low m.length (.slice q K.length c) := Low.of_sl sl la
  refine ACall.start Tryd.func42 rfl rfl ?_
  (repeat (first | (with_reducible refine AWo.cons ?_) | ((with_reducible refine Step.id ?_); first | ((with_reducible apply Step.move); exact rfl; exact rfl) | ((with_reducible apply Step.assign); exact rfl; exact rfl) | ((with_reducible apply Step.len); exact rfl; (focus (assumption)); (focus (decide +kernel)); exact rfl)) | (with_reducible refine AWo.nil ?_) | ((with_reducible apply AW.seq)) | ((with_reducible apply Then.n)) | ((with_reducible apply AW.regL)) | ((with_reducible apply AW.block))))
  refine AW.loopT (fun n t L => ∃ i : Nat, n = K.length - i ∧ i ≤ K.length ∧ L = [gb (ndc (K.take i)) 3] ∧
    t = [(3, gv (m.length + 0) i), (6, .slice q K.length c), (7, .int .i64 (K.length : Nat)), (8, .int .i64 (i : Nat))])
    ⟨_, _, [none], (Back.padC rfl (by repeat (first | exact trivial | (refine And.intro ⟨rfl, by (first | exact Low.rid (by assumption) (by simp) | exact .int _ _ | exact Ren.of_gv (by first | (simp; done) | omega | (simp; omega)))⟩ ?_))) (by repeat (exact CellsP.nil))), 0, rfl, Nat.zero_le _, rfl, rfl⟩ ?_
  rintro n t L ⟨i, rfl, hi, rfl, rfl⟩
  rcases Nat.lt_or_ge i K.length with hlt | hge
  · have rk := rd i hlt
    have hs : K.take (i + 1) = K.take i ++ [K.getD i (0, 0, false)] := take_snoc K i (0, 0, false) hlt
    generalize K.getD i (0, 0, false) = k at rk hs
    obtain ⟨ka, kb, kc⟩ := k
    simp only [ndc1] at rk
    have hpl : (ndc (K.take i)).length = i * 3 := by rw [ndc_len, List.length_take]; congr 1; omega
    have hg0 := g0_ndc (K.take (i + 1))
    have hcc : ndc (K.take (i + 1)) = ndc (K.take i) ++ [.int .i64 ka, .int .i64 kb, .bool kc] := by rw [hs, ndc_app]; rfl
    rw [hcc] at hg0
    (repeat (first | (with_reducible refine AWo.cons ?_) | ((with_reducible refine Step.id ?_); first | ((with_reducible apply Step.move); exact rfl; exact rfl) | ((with_reducible apply Step.load); exact rfl; (focus (decide +kernel)); exact rfl; (focus (exact Rd.new rfl rfl))) | ((with_reducible apply Step.loadL (n := 3)); exact rfl; (focus (decide +kernel)); (focus (decide +kernel)); exact rfl; (focus (exact RdL.old _ (by assumption))); exact rfl; exact rfl) | ((with_reducible apply Step.ix (s := 3)); exact rfl; (focus (assumption)); exact rfl; (focus (decide +kernel)); exact rfl; (focus (omega))) | ((with_reducible apply Step.field0); exact rfl; (focus (decide +kernel)); exact rfl) | ((with_reducible apply Step.field (k := 1)); exact rfl; (focus (decide +kernel)); exact rfl) | ((with_reducible apply Step.field (k := 2)); exact rfl; (focus (decide +kernel)); exact rfl) | ((with_reducible apply Step.lss); exact rfl; exact rfl; exact rfl) | ((with_reducible apply Step.alloc 1); exact rfl; exact ze63; exact rfl; (focus (first | (simp only [List.nil_append, List.cons_append, List.set_cons_zero, List.set_cons_succ, iv_set, bv_set, iv_rep, bv_rep]; done) | (simp only [List.nil_append, List.cons_append, List.set_cons_zero, List.set_cons_succ, iv_set, bv_set, iv_rep, bv_rep]; rfl) | rfl))) | ((with_reducible apply Step.storeA (k := 1) (n := 3)); exact rfl; exact rfl; exact rfl; exact rfl; (focus (decide +kernel)); exact rfl; (focus (kernel_rfl)); exact rfl; (focus (first | (simp only [List.nil_append, List.cons_append, List.set_cons_zero, List.set_cons_succ, iv_set, bv_set, iv_rep, bv_rep]; done) | (simp only [List.nil_append, List.cons_append, List.set_cons_zero, List.set_cons_succ, iv_set, bv_set, iv_rep, bv_rep]; rfl) | rfl))) | ((with_reducible apply Step.buildS 2); exact rfl; exact rfl; exact (fun _ _ => bs55); exact rfl; (focus (first | (simp only [List.nil_append, List.cons_append, List.set_cons_zero, List.set_cons_succ, iv_set, bv_set, iv_rep, bv_rep]; done) | (simp only [List.nil_append, List.cons_append, List.set_cons_zero, List.set_cons_succ, iv_set, bv_set, iv_rep, bv_rep]; rfl) | rfl))) | ((with_reducible apply Step.build); exact rfl; exact bl121; exact rfl)) | (with_reducible refine AWo.nil ?_) | ((with_reducible apply AW.seq)) | ((with_reducible apply Then.n)) | ((with_reducible apply AW.regL)) | ((with_reducible apply AW.block)) | ((with_reducible apply AW.skip)) | ((with_reducible apply AW.condT); exact rfl; (focus ((simp only [decide_eq_true_eq, decide_eq_false_iff_not, Bool.not_eq_true', Bool.not_eq_false', Bool.not_true, Bool.not_false]; first | assumption | omega))))))
    ((with_reducible apply Step.appG (k := 3) (q := 0) (r := 2) (n := i) (xl := 1)); exact rfl; exact rfl; exact rfl; exact el55; exact un55; exact rfl; exact rfl; exact rfl; exact hpl; exact rfl; exact rfl; (focus (kernel_rfl)); (focus (omega)); exact rfl; (focus (first | (simp only [List.nil_append, List.cons_append, List.set_cons_zero, List.set_cons_succ, iv_set, bv_set, iv_rep, bv_rep]; done) | (simp only [List.nil_append, List.cons_append, List.set_cons_zero, List.set_cons_succ, iv_set, bv_set, iv_rep, bv_rep]; rfl) | rfl)))
    (repeat (first | (with_reducible refine AWo.cons ?_) | ((with_reducible refine Step.id ?_); first | ((with_reducible apply Step.move); exact rfl; exact rfl) | ((with_reducible apply Step.assign); exact rfl; exact rfl) | ((with_reducible apply Step.add); exact rfl; exact rfl; (focus (omega)); exact rfl)) | (with_reducible refine AWo.nil ?_) | ((with_reducible apply Then.n)) | ((with_reducible apply AW.regL)) | ((with_reducible apply InBlk.n))))
    exact ⟨_, [(3, .slice (some ⟨m.length + 0, 0, none⟩) (i + 1) (i + 1)), (6, .slice q K.length c), (7, .int .i64 (K.length : Nat)), (8, .int .i64 (i + 1 : Nat))], [some { cells := ndc (K.take i) ++ [.int .i64 ka, .int .i64 kb, .bool kc], kind := .grow, size := 3 }], by omega, (Back.mv 0 3 rfl rfl rfl rfl (by intro j b hj h; rcases j with _ | _ | _ | _ | _ | _ | j <;> simp_all) (by repeat (first | exact CellsOk.nil | refine CellsOk.cons (by assumption) ?_)) (by repeat (first | exact trivial | (refine And.intro ⟨_, rfl, by (first | exact Low.ne (by assumption) (by simp) | exact .int _ _ | exact Ren.slice_mv (by first | (simp; done) | omega | (simp; omega)))⟩ ?_)))), i + 1, rfl, by omega, by rw [hcc, gb_pos (by simp)], by rw [gv_pos (by omega)]⟩
  · obtain rfl : i = K.length := by omega
    have hg0 := g0_ndc (K.take K.length)
    (repeat (first | (with_reducible refine AWo.cons ?_) | ((with_reducible refine Step.id ?_); first | ((with_reducible apply Step.move); exact rfl; exact rfl) | ((with_reducible apply Step.assign); exact rfl; exact rfl) | ((with_reducible apply Step.lss); exact rfl; exact rfl; exact rfl)) | (with_reducible refine AWo.nil ?_) | ((with_reducible apply AW.seq)) | ((with_reducible apply Then.n)) | ((with_reducible apply AW.regL)) | ((with_reducible apply AW.exit)) | ((with_reducible apply InBlk.hit)) | ((with_reducible apply Then.e)) | ((with_reducible apply AW.condF); exact rfl; (focus ((simp only [decide_eq_true_eq, decide_eq_false_iff_not, Bool.not_eq_true', Bool.not_eq_false', Bool.not_true, Bool.not_false]; first | assumption | omega))))))
    (refine AW.retB (l := [(2, _)]) (Or.inl ⟨rfl, (by repeat (first | exact trivial | (refine And.intro rfl ?_)))⟩) ?_; (repeat (first | refine Then.r ?_ | refine InBlk.r ?_)))
    exact ⟨_, rfl, rfl, by rw [List.take_of_length_le (Nat.le_refl _)]⟩
/-- Pieces in memory. -/
def Pcs (m : AM) (v : Value) (l : List Plc) : Prop := ∃ a o, Sl v a o l.length ∧ a < m.length ∧ ∀ i, i < l.length → RdL m a (o + i * 6) (plc1 (l.getD i default))
theorem Pcs.old {m : AM} {v : Value} {l : List Plc} (h : Pcs m v l) (L : AM) : Pcs (m ++ L) v l := by
  obtain ⟨a, o, h1, h2, h3⟩ := h
  exact ⟨a, o, h1, by rw [List.length_append]; omega, fun i hi => (h3 i hi).old L⟩
theorem Pcs.nil {m : AM} (hM : 0 < m.length) : Pcs m (.slice none 0 0) [] := ⟨0, 0, .inl ⟨rfl, rfl⟩, hM, fun i hi => by simp at hi⟩
theorem FD.pcs {b0 : Nat} {m : AM} {F A : Nat} {l : List Plc} (h : FD b0 m F A l) : ∃ v, Rd m F 0 v ∧ Pcs m v l := by
  obtain ⟨_, v, h2, h3⟩ := h
  refine ⟨v, ⟨_, h2, rfl⟩, ?_⟩
  have hl := (List.getElem?_eq_some_iff.1 h2).1
  rcases h3 with ⟨rfl, rfl⟩ | ⟨rfl, _, _, _, h4⟩
  · exact Pcs.nil (by omega)
  · exact ⟨A, 0, Sl.mk (Nat.le_refl _), (List.getElem?_eq_some_iff.1 h4).1, fun i hi => ⟨_, h4, fun j v hj => by rw [Nat.zero_add]; exact plc_get l i hi j v hj⟩⟩
/-- What reading a plan of the whole board comes to: the pieces, and the error. -/
def rdgM (B : Brd) (K : List Kd) (ps : List Nd) : List Plc × Int := if goodB B K = true then (match rdM B K 32 (wholeR B) ps with
    | some (l, []) => (l, 0)
    | _ => ([], 6)) else ([], 2)
set_option maxHeartbeats 8000000 in
set_option maxRecDepth 100000 in
theorem Reading_ok {m : AM} {sv kv v : Value} {B : Brd} {K : List Kd} {ps : List Nd} (hs : Strs m sv B) (hk : Kds m kv K) (hv : PN m v ps) (hlen : ps.length ≤ 1000000) :
    ACall Tryd.prog 87 #[sv, kv, v] m (More (fun M w => ∃ pv u, w = .tuple #[pv, u, .int .i64 (rdgM B K ps).2] ∧ Pcs M u (rdgM B K ps).1 ∧ ((rdgM B K ps).2 = 0 → ∃ p, pv = .pointer (some ⟨p, 0, none⟩) ∧ BoardAt M p B K)) m) := by
  have hM : 0 < m.length := by obtain ⟨A1, O1, sl1, la1, rd1⟩ := hs; omega
  cases hg : goodB B K with
  | false =>
    have hN := fun T => newBoard_no (hs.old T) (hk.old T) hg
    have e : rdgM B K ps = ([], 2) := by unfold rdgM; rw [if_neg (by simp [hg])]
    rw [e]
    refine ACall.start Tryd.func87 rfl rfl ?_
    (repeat (first | (with_reducible refine AWo.cons ?_) | ((with_reducible refine Step.id ?_); first | ((with_reducible apply Step.move); exact rfl; exact rfl) | ((with_reducible apply Step.assign); exact rfl; exact rfl) | ((with_reducible apply Step.ptrNil); exact rfl; exact rfl; exact un100; exact rfl) | ((with_reducible apply Step.callR fit); exact rfl; exact Tryd.func65; exact rfl; exact rfl; exact (hN _))) | (with_reducible refine AWo.nil ?_) | ((with_reducible apply AW.seq)) | ((with_reducible apply Then.n)) | ((with_reducible apply AW.regL)) | ((with_reducible apply AW.condT); exact rfl; (focus (rfl)))))
    (refine AW.ret ?_; (repeat (first | refine Then.r ?_ | refine InBlk.r ?_)))
    exact ⟨_, rfl, [], rfl, _, _, rfl, by rw [List.append_nil]; exact Pcs.nil hM, fun h => by cases h⟩
  | true =>
    have hgb : boardB B = true := by simp only [goodB, Bool.and_eq_true] at hg; exact hg.1
    have hin := good_in hgb
    have hok : (wholeR B).ok (bw B) (bh B) := by
      simp only [R4.ok, wholeR]
      omega
    have hsz : (wholeR B).size ≤ 32 := by
      simp only [R4.size, wholeR]
      omega
    unfold rdgM
    rw [if_pos hg]
    refine ACall.start Tryd.func87 rfl rfl ?_
    (repeat (first | (with_reducible refine AWo.cons ?_) | ((with_reducible refine Step.id ?_); first | ((with_reducible apply Step.move); exact rfl; exact rfl) | ((with_reducible apply Step.assign); exact rfl; exact rfl)) | (with_reducible refine AWo.nil ?_) | ((with_reducible apply AW.seq)) | ((with_reducible apply Then.n)) | ((with_reducible apply AW.regL))))
    ((with_reducible apply Step.callX fit); exact rfl; exact Tryd.func65; exact rfl; exact rfl; exact (newBoard_ok (hs.old _) (hk.old _) hg))
    rintro _ m1 ⟨N1, hN1⟩ ⟨p, hp, rfl, hB⟩
    have w1 := fun T => whole_ok (hB.old T)
    have hv1 : PN m1 v ps := by rw [hN1]; exact (hv.old _).old _
    have hm1 : ∃ N, m1 = m ++ N := ⟨N1, by rw [hN1, List.append_nil]⟩
    have hR := read_ok hg hB 32 (Nat.le_refl _) hok hsz (m := m1 ++ [some { cells := [.slice none 0 0] }]) (F := m1.length + 0) (A := m1.length + 0) (l := []) (v := v) (ps := ps) ⟨_, rfl⟩ ⟨by omega, _, by rw [get_app]; rfl, .inl ⟨rfl, rfl⟩⟩ hv1 (by simpa using hlen) (by simp)
    change ∀ T, ACall Tryd.prog 67 _ _ (Ret (.agg (wholeR B).rc.cells.toArray) _) at w1
    generalize (wholeR B).rc = rr at *
    generalize rdM B K 32 (wholeR B) ps = x at *
    clear hN1
    (repeat (first | (with_reducible refine AWo.cons ?_) | ((with_reducible refine Step.id ?_); first | ((with_reducible apply Step.move); exact rfl; exact rfl) | ((with_reducible apply Step.assign); exact rfl; exact rfl) | ((with_reducible apply Step.ptrNot); exact rfl; exact rfl; exact un100; exact rfl) | ((with_reducible apply Step.callR fit); exact rfl; exact Tryd.func67; exact rfl; exact rfl; exact (w1 _)) | ((with_reducible apply Step.alloc 0); exact rfl; exact ze69; exact rfl; (focus (first | (simp only [List.nil_append, List.cons_append, List.set_cons_zero, List.set_cons_succ, iv_set, bv_set, iv_rep, bv_rep]; done) | (simp only [List.nil_append, List.cons_append, List.set_cons_zero, List.set_cons_succ, iv_set, bv_set, iv_rep, bv_rep]; rfl) | rfl)))) | (with_reducible refine AWo.nil ?_) | ((with_reducible apply AW.seq)) | ((with_reducible apply Then.n)) | ((with_reducible apply AW.regL)) | ((with_reducible apply AW.skip)) | ((with_reducible apply AW.condF); exact rfl; (focus (rfl)))))
    ((with_reducible apply Step.callZ fit); exact rfl; exact Tryd.func106; exact rfl; exact rfl; exact hR)
    rintro _ M2 hR2
    cases x with
    | none =>
      obtain ⟨hN2, u, rfl⟩ := hR2
      (repeat (first | (with_reducible refine AWo.cons ?_) | ((with_reducible refine Step.id ?_); first | ((with_reducible apply Step.gdF); exact rfl; exact rfl; (focus (rfl))) | ((with_reducible apply Step.move); exact rfl; exact rfl) | ((with_reducible apply Step.assign); exact rfl; exact rfl) | ((with_reducible apply Step.not); exact rfl; exact rfl) | ((with_reducible apply Step.extract); exact rfl; exact rfl; exact rfl) | ((with_reducible apply Step.pickT); exact rfl; exact rfl; exact rfl; exact rfl; (focus (rfl)))) | (with_reducible refine AWo.nil ?_) | ((with_reducible apply AW.seq)) | ((with_reducible apply Then.n)) | ((with_reducible apply AW.regL)) | ((with_reducible apply AW.condT); exact rfl; (focus (rfl)))))
      (refine AW.ret ?_; (repeat (first | refine Then.r ?_ | refine InBlk.r ?_)))
      obtain ⟨N1, hN1⟩ := hm1
      obtain ⟨N, hN⟩ := hN2
      exact ⟨_, rfl, N1 ++ N, by rw [List.append_nil, hN, hN1, List.append_assoc], _, _, rfl, Pcs.nil (by rw [List.append_nil, hN, hN1]; simp; omega), fun h => by cases h⟩
    | some x =>
      obtain ⟨l, ps'⟩ := x
      obtain ⟨hN2, u, A', rfl, hP2, hF2, hA2, hA3, hK2⟩ := hR2
      rw [List.nil_append] at hF2
      obtain ⟨fv, hfv, hpc⟩ := hF2.pcs
      obtain ⟨a, o, sl, _⟩ := hP2
      have hfv' : ∀ T, Rd (M2 ++ T) (m1.length + 0) 0 fv := fun T => hfv.old T
      obtain ⟨q, c, rfl⟩ := sl.shape
      cases ps' with
      | nil =>
        change Sl (.slice q 0 c) a o 0 at sl
        (repeat (first | (with_reducible refine AWo.cons ?_) | ((with_reducible refine Step.id ?_); first | ((with_reducible apply Step.gdT); exact rfl; exact rfl; (focus (rfl))) | ((with_reducible apply Step.move); exact rfl; exact rfl) | ((with_reducible apply Step.assign); exact rfl; exact rfl) | ((with_reducible apply Step.load); exact rfl; (focus (decide +kernel)); exact rfl; (focus (exact hfv' _))) | ((with_reducible apply Step.gtr); exact rfl; exact rfl; exact rfl) | ((with_reducible apply Step.len); exact rfl; (focus (assumption)); (focus (decide +kernel)); exact rfl) | ((with_reducible apply Step.not); exact rfl; exact rfl) | ((with_reducible apply Step.extract); exact rfl; exact rfl; exact rfl) | ((with_reducible apply Step.pickF); exact rfl; exact rfl; exact rfl; exact rfl; (focus (rfl)))) | (with_reducible refine AWo.nil ?_) | ((with_reducible apply AW.seq)) | ((with_reducible apply Then.n)) | ((with_reducible apply AW.regL)) | ((with_reducible apply AW.drawL fit); (focus (decide +kernel))) | ((with_reducible apply AW.skip)) | ((with_reducible apply AW.condF); exact rfl; (focus (rfl)))))
        (refine AW.ret ?_; (repeat (first | refine Then.r ?_ | refine InBlk.r ?_)))
        obtain ⟨N1, hN1⟩ := hm1
        obtain ⟨N, hN⟩ := hN2
        exact ⟨_, rfl, N1 ++ N, by rw [List.append_nil, hN, hN1, List.append_assoc], _, _, rfl, by rw [List.append_nil]; exact hpc, fun _ => ⟨p, rfl, by rw [List.append_nil, hN]; exact hB.old _⟩⟩
      | cons y ps' =>
        change Sl (.slice q (ps'.length + 1) c) a o (ps'.length + 1) at sl
        (repeat (first | (with_reducible refine AWo.cons ?_) | ((with_reducible refine Step.id ?_); first | ((with_reducible apply Step.gdT); exact rfl; exact rfl; (focus (rfl))) | ((with_reducible apply Step.move); exact rfl; exact rfl) | ((with_reducible apply Step.assign); exact rfl; exact rfl) | ((with_reducible apply Step.gtr); exact rfl; exact rfl; exact rfl) | ((with_reducible apply Step.len); exact rfl; (focus (assumption)); (focus (decide +kernel)); exact rfl) | ((with_reducible apply Step.not); exact rfl; exact rfl) | ((with_reducible apply Step.extract); exact rfl; exact rfl; exact rfl) | ((with_reducible apply Step.pickF); exact rfl; exact rfl; exact rfl; exact rfl; (focus (rfl)))) | (with_reducible refine AWo.nil ?_) | ((with_reducible apply AW.seq)) | ((with_reducible apply Then.n)) | ((with_reducible apply AW.regL)) | ((with_reducible apply AW.condT); exact rfl; (focus ((simp only [decide_eq_true_eq, decide_eq_false_iff_not, Bool.not_eq_true', Bool.not_eq_false', Bool.not_true, Bool.not_false]; first | assumption | omega))))))
        (refine AW.ret ?_; (repeat (first | refine Then.r ?_ | refine InBlk.r ?_)))
        obtain ⟨N1, hN1⟩ := hm1
        obtain ⟨N, hN⟩ := hN2
        exact ⟨_, rfl, N1 ++ N, by rw [List.append_nil, hN, hN1, List.append_assoc], _, _, rfl, Pcs.nil (by rw [List.append_nil, hN, hN1]; simp; omega), fun h => by cases h⟩
theorem rdgM_all {B : Brd} {K : List Kd} {ps : List Nd} : (rdgM B K ps).1.length ≤ ps.length ∧ ((rdgM B K ps).1 = [] ∨ goodB B K = true) ∧ ∀ x ∈ (rdgM B K ps).1, x.1 < K.length ∧ x.2.1.ok (bw B) (bh B) ∧ okB B (K.getD x.1 default) x.2.1 = true ∧ turnedB (K.getD x.1 default) x.2.1 = x.2.2 := by
  unfold rdgM
  split
  · rename_i hg
    have hgb : boardB B = true := by simp only [goodB, Bool.and_eq_true] at hg; exact hg.1
    have hin := good_in hgb
    have hok : (wholeR B).ok (bw B) (bh B) := by
      simp only [R4.ok, wholeR]
      omega
    split
    · rename_i l e
      have := rdM_len 32 e
      exact ⟨by simp only; omega, .inr hg, rdM_all 32 hok e⟩
    · exact ⟨by simp, .inl rfl, fun x hx => by simp at hx⟩
  · exact ⟨by simp, .inl rfl, fun x hx => by simp at hx⟩
theorem worthL_take (K : List Kd) (l : List Plc) {i : Nat} (h : i < l.length) : worthL K (l.take (i + 1)) = worthL K (l.take i) + (K.getD (l.getD i default).1 default).worth := by
  rw [take_snoc l i default h, worthL_app]
  simp [worthL]
set_option maxHeartbeats 8000000 in
set_option maxRecDepth 100000 in
theorem Read_ok {m : AM} {sv kv v : Value} {B : Brd} {K : List Kd} {ps : List Nd} (hs : Strs m sv B) (hk : Kds m kv K) (hv : PN m v ps) (hlen : ps.length ≤ 1000000) :
    ACall Tryd.prog 41 #[sv, kv, v] m (More (fun M w => ∃ u, w = .tuple #[u, .int .i64 (worthL K (rdgM B K ps).1), .int .i64 (rdgM B K ps).2] ∧ Pcs M u (rdgM B K ps).1) m) := by
  have hR := Reading_ok hs hk hv hlen
  obtain ⟨hl1, hl2, hl3⟩ := rdgM_all (B := B) (K := K) (ps := ps)
  generalize rdgM B K ps = x at *
  obtain ⟨l, e⟩ := x
  simp only at hR hl1 hl2 hl3 ⊢
  refine ACall.start Tryd.func41 rfl rfl ?_
  (repeat (first | (with_reducible refine AWo.cons ?_) | ((with_reducible refine Step.id ?_); first | ((with_reducible apply Step.move); exact rfl; exact rfl) | ((with_reducible apply Step.assign); exact rfl; exact rfl)) | (with_reducible refine AWo.nil ?_) | ((with_reducible apply AW.seq)) | ((with_reducible apply Then.n)) | ((with_reducible apply AW.regL))))
  rw [List.append_nil]
  ((with_reducible apply Step.callX fit); exact rfl; exact Tryd.func87; exact rfl; exact rfl; exact hR)
  rintro _ M1 ⟨N1, hN1⟩ ⟨pv, u, rfl, hpc, _⟩
  have hk1 : Kds M1 kv K := by rw [hN1]; exact hk.old _
  clear hR
  (repeat (first | (with_reducible refine AWo.cons ?_) | ((with_reducible refine Step.id ?_); first | ((with_reducible apply Step.move); exact rfl; exact rfl) | ((with_reducible apply Step.assign); exact rfl; exact rfl) | ((with_reducible apply Step.extract); exact rfl; exact rfl; exact rfl)) | (with_reducible refine AWo.nil ?_) | ((with_reducible apply Then.n))))
  rw [List.append_nil]
  refine AW.rebase ?_
  obtain ⟨A1, O1, sl1, la1, rd1⟩ := hk1
  obtain ⟨q1, c1, rfl⟩ := sl1.shape
  have hpc' := hpc
  obtain ⟨A2, O2, sl2, la2, rd2⟩ := hpc
  obtain ⟨q2, c2, rfl⟩ := sl2.shape
  have w1 : Low M1.length (.slice q1 K.length c1) := Low.of_sl sl1 la1
  have w2 : Low M1.length (.slice q2 l.length c2) := Low.of_sl sl2 la2
  (repeat (first | (with_reducible refine AWo.cons ?_) | ((with_reducible refine Step.id ?_); first | ((with_reducible apply Step.move); exact rfl; exact rfl) | ((with_reducible apply Step.assign); exact rfl; exact rfl) | ((with_reducible apply Step.len); exact rfl; (focus (assumption)); (focus (decide +kernel)); exact rfl)) | (with_reducible refine AWo.nil ?_) | ((with_reducible apply AW.seq)) | ((with_reducible apply Then.n)) | ((with_reducible apply AW.regL)) | ((with_reducible apply AW.block))))
  refine AW.loopT (fun n t L => ∃ i : Nat, n = l.length - i ∧ i ≤ l.length ∧ L = [] ∧
    t = [(1, .slice q1 K.length c1), (10, .slice q2 l.length c2), (11, .int .i64 e), (12, .int .i64 (worthL K (l.take i))), (23, .slice q2 l.length c2), (24, .int .i64 (l.length : Nat)), (25, .int .i64 (i : Nat))])
    ⟨_, _, _, (Or.inl ⟨rfl, (by repeat (first | exact trivial | (refine And.intro rfl ?_)))⟩), 0, rfl, Nat.zero_le _, rfl, rfl⟩ ?_
  rintro n t L ⟨i, rfl, hi, rfl, rfl⟩
  rcases Nat.lt_or_ge i l.length with hlt | hge
  · have rp := rd2 i hlt
    have hmem : l.getD i default ∈ l := by rw [getD_in _ _ hlt]; exact List.getElem_mem hlt
    have hx := (hl3 _ hmem).1
    have hw := worthL_take K l hlt
    have hgd : goodB B K = true := by
      rcases hl2 with h | h
      · rw [h] at hlt; simp at hlt
      · exact h
    have hKb : kindsB K = true := by simp only [goodB, Bool.and_eq_true] at hgd; exact hgd.2
    have hwi := worthL_in hKb (l.take i) (fun y hy => (hl3 y (List.mem_of_mem_take hy)).1)
    have htk : (l.take i).length ≤ l.length := by rw [List.length_take]; omega
    have hkd := kdB_in (kinds_get hKb hx)
    have rk := (rd1 _ hx).at_ 3 rfl
    generalize worthL K (l.take i) = ws at *
    generalize l.getD i default = y at *
    obtain ⟨yk, yr, yt⟩ := y
    simp only at rk hx hkd
    generalize (K.getD yk default).worth = kw at *
    simp only [plc1, Rc.cells, List.cons_append, List.nil_append] at rp
    (repeat (first | (with_reducible refine AWo.cons ?_) | ((with_reducible refine Step.id ?_); first | ((with_reducible apply Step.move); exact rfl; exact rfl) | ((with_reducible apply Step.assign); exact rfl; exact rfl) | ((with_reducible apply Step.load); exact rfl; (focus (decide +kernel)); exact rfl; (focus (first | exact Rd.new rfl rfl | exact Rd.old _ (by assumption)))) | ((with_reducible apply Step.loadL (n := 6)); exact rfl; (focus (decide +kernel)); (focus (decide +kernel)); exact rfl; (focus (exact RdL.old _ (by assumption))); exact rfl; exact rfl) | ((with_reducible apply Step.ix (s := 5)); exact rfl; (focus (assumption)); exact rfl; (focus (decide +kernel)); exact rfl; (focus (omega))) | ((with_reducible apply Step.ix (s := 6)); exact rfl; (focus (assumption)); exact rfl; (focus (decide +kernel)); exact rfl; (focus (omega))) | ((with_reducible apply Step.field0); exact rfl; (focus (decide +kernel)); exact rfl) | ((with_reducible apply Step.field (k := 3)); exact rfl; (focus (decide +kernel)); exact rfl) | ((with_reducible apply Step.add); exact rfl; exact rfl; (focus (omega)); exact rfl) | ((with_reducible apply Step.lss); exact rfl; exact rfl; exact rfl) | ((with_reducible apply Step.alloc 0); exact rfl; exact ze81; exact rfl; (focus (first | (simp only [List.nil_append, List.cons_append, List.set_cons_zero, List.set_cons_succ, iv_set, bv_set, iv_rep, bv_rep]; done) | (simp only [List.nil_append, List.cons_append, List.set_cons_zero, List.set_cons_succ, iv_set, bv_set, iv_rep, bv_rep]; rfl) | rfl))) | ((with_reducible apply Step.storeA (k := 0) (n := 6)); exact rfl; exact rfl; exact rfl; exact rfl; (focus (decide +kernel)); exact rfl; (focus (kernel_rfl)); exact rfl; (focus (first | (simp only [List.nil_append, List.cons_append, List.set_cons_zero, List.set_cons_succ, iv_set, bv_set, iv_rep, bv_rep]; done) | (simp only [List.nil_append, List.cons_append, List.set_cons_zero, List.set_cons_succ, iv_set, bv_set, iv_rep, bv_rep]; rfl) | rfl)))) | (with_reducible refine AWo.nil ?_) | ((with_reducible apply AW.seq)) | ((with_reducible apply Then.n)) | ((with_reducible apply AW.regL)) | ((with_reducible apply AW.block)) | ((with_reducible apply InBlk.n)) | ((with_reducible apply AW.skip)) | ((with_reducible apply AW.condT); exact rfl; (focus ((simp only [decide_eq_true_eq, decide_eq_false_iff_not, Bool.not_eq_true', Bool.not_eq_false', Bool.not_true, Bool.not_false]; first | assumption | omega))))))
    exact ⟨_, [(1, .slice q1 K.length c1), (10, .slice q2 l.length c2), (11, .int .i64 e), (12, .int .i64 (ws + kw)), (23, .slice q2 l.length c2), (24, .int .i64 (l.length : Nat)), (25, .int .i64 (i + 1 : Nat))], [], by omega, (Back.trim rfl rfl (by repeat (exact CellsOk.nil)) (by repeat (first | exact trivial | (refine And.intro ⟨rfl, by (first | exact Low.rid (by assumption) (by simp) | exact .int _ _)⟩ ?_)))), i + 1, rfl, by omega, rfl, by rw [hw]⟩
  · obtain rfl : i = l.length := by omega
    (repeat (first | (with_reducible refine AWo.cons ?_) | ((with_reducible refine Step.id ?_); first | ((with_reducible apply Step.move); exact rfl; exact rfl) | ((with_reducible apply Step.assign); exact rfl; exact rfl) | ((with_reducible apply Step.lss); exact rfl; exact rfl; exact rfl)) | (with_reducible refine AWo.nil ?_) | ((with_reducible apply AW.seq)) | ((with_reducible apply Then.n)) | ((with_reducible apply AW.regL)) | ((with_reducible apply AW.exit)) | ((with_reducible apply InBlk.hit)) | ((with_reducible apply Then.e)) | ((with_reducible apply AW.condF); exact rfl; (focus ((simp only [decide_eq_true_eq, decide_eq_false_iff_not, Bool.not_eq_true', Bool.not_eq_false', Bool.not_true, Bool.not_false]; first | assumption | omega))))))
    (refine AW.ret ?_; (repeat (first | refine Then.r ?_ | refine InBlk.r ?_)))
    exact ⟨_, rfl, N1, by rw [List.append_nil]; exact hN1, _, by rw [List.take_of_length_le (Nat.le_refl _)], by rw [List.append_nil]; exact hpc'⟩
end Go.Proofs.YtibhgdglbillaaaDoor.Abs
namespace Go.Proofs.YtibhgdglbillaaaDoor.Abs
set_option linter.unusedSimpArgs false
set_option linter.unusedVariables false
/-- Cut in one direction, down to what the base gives. -/
def WW (base : R4 → Int) (d : Bool) : Nat → R4 → Int
  | 0, _ => 0
  | f + 1, r => max (base r) (cutM (WW base d f) r d)
def W (base : R4 → Int) (d : Bool) (r : R4) : Int := WW base d r.size r
section
variable {base base' leaf : R4 → Int} {w h : Nat} {d : Bool}
/-- With t changes of direction left, below a cut in direction d. -/
def SS (leaf : R4 → Int) : Nat → Bool → R4 → Int
  | 0, d => W leaf d
  | t + 1, d => W (fun r => max (leaf r) (cutM (SS leaf t (!d)) r (!d))) d
end
end Go.Proofs.YtibhgdglbillaaaDoor.Abs
namespace Go.Proofs.YtibhgdglbillaaaDoor.Abs
set_option linter.unusedSimpArgs false
set_option linter.unusedVariables false
open Go.RowKit
open Go.Proofs.YtibhgdglbillaaaDoor.Sim
open Go.Proofs
section
variable (leaf : R4 → Int) (w h : Nat)
/-- The tables with t changes left hold what they should. -/
def SI2 (t : Nat) (D : R4 → Prop) (s : List Int × List Int) : Prop := TabI (SS leaf t true) w h D s.1 ∧ TabI (SS leaf t false) w h D s.2
end
section
variable {leaf : R4 → Int} {w h : Nat} {t : Nat} {pv : List Int × List Int}
theorem SI2.zero : SI2 leaf w h t (fun _ => False) (List.replicate (total w h) 0, List.replicate (total w h) 0) := ⟨TabI.zero, TabI.zero⟩
end
end Go.Proofs.YtibhgdglbillaaaDoor.Abs
namespace Go.Proofs.YtibhgdglbillaaaDoor.Abs
set_option linter.unusedSimpArgs false
set_option linter.unusedVariables false
open Go.RowKit
open Go.Proofs.YtibhgdglbillaaaDoor.Sim
open Go.Proofs
/-- Two blocks of numbers. -/
def M2 (M : AM) (q0 q1 : Nat) (s : List Int × List Int) : AM := MI (MI M q0 s.1) q1 s.2
section
variable {M M0 L T : AM} {q0 q1 : Nat} {s : List Int × List Int}
theorem M2.len : (M2 M q0 q1 s).length = M.length := by unfold M2; rw [MI.len, MI.len]
theorem M2.at0 (h : q0 ≠ q1) (h0 : q0 < M.length) : (M2 M q0 q1 s)[q0]? = some (some { cells := iv s.1 }) := by unfold M2; rw [MI.ne h]; exact MI.at h0
theorem M2.at1 (h1 : q1 < M.length) : (M2 M q0 q1 s)[q1]? = some (some { cells := iv s.2 }) := by unfold M2; exact MI.at (by rw [MI.len]; exact h1)
theorem M2.set1 (h1 : q1 < M.length) (z : List Int) : (M2 M q0 q1 s ++ T).set q1 (some { cells := iv z }) = M2 M q0 q1 (s.1, z) ++ T := by unfold M2; exact MI.set (by rw [MI.len]; exact h1) T z
theorem M2.flat (h : q0 ≠ q1) (h0 : q0 < M.length) (h1 : q1 < M.length) (s s' : List Int × List Int) (n j : Nat) (b : Blk) (hj : (M2 M q0 q1 s')[j]? = some (some b)) : (j < M.length ∧ (M2 M q0 q1 s)[j]? = some (some b)) ∨ (isMapK b.kind = false ∧ ∀ x ∈ b.cells, Ren rid n x x) := by
  by_cases e1 : j = q1
  · subst e1
    rw [M2.at1 h1] at hj
    simp only [Option.some.injEq] at hj
    subst hj
    exact .inr ⟨rfl, fun x hx => Ren.of_g0 (g0_iv _ x hx)⟩
  by_cases e0 : j = q0
  · subst e0
    rw [M2.at0 h h0] at hj
    simp only [Option.some.injEq] at hj
    subst hj
    exact .inr ⟨rfl, fun x hx => Ren.of_g0 (g0_iv _ x hx)⟩
  unfold M2 at hj ⊢
  rw [MI.ne e1, MI.ne e0] at hj
  exact .inl ⟨(List.getElem?_eq_some_iff.1 hj).1, by rw [MI.ne e1, MI.ne e0]; exact hj⟩
theorem M2.same (h : q0 ≠ q1) (h0 : M[q0]? = some (some { cells := iv s.1 })) (h1 : M[q1]? = some (some { cells := iv s.2 })) : M2 M q0 q1 s = M := by
  unfold M2 MI
  have e0 := List.getElem?_eq_some_iff.1 h0
  have e1 := List.getElem?_eq_some_iff.1 h1
  rw [← e0.2, List.set_getElem_self, ← e1.2, List.set_getElem_self]
theorem M2.rd {a o : Nat} {x : Value} (h0 : a ≠ q0) (h1 : a ≠ q1) (hr : Rd M a o x) : Rd (M2 M q0 q1 s) a o x := by
  unfold M2
  exact MI.rd h1 (MI.rd h0 hr)
end
end Go.Proofs.YtibhgdglbillaaaDoor.Abs
namespace Go.Proofs.YtibhgdglbillaaaDoor.Abs
set_option linter.unusedSimpArgs false
set_option linter.unusedVariables false
open Go.RowKit
open Go.Proofs.YtibhgdglbillaaaDoor.Sim
open Go.Proofs
theorem M2.ne {M : AM} {q0 q1 a : Nat} {s : List Int × List Int} (h0 : a ≠ q0) (h1 : a ≠ q1) : (M2 M q0 q1 s)[a]? = M[a]? := by unfold M2; rw [MI.ne h1, MI.ne h0]
end Go.Proofs.YtibhgdglbillaaaDoor.Abs
namespace Go.Proofs.YtibhgdglbillaaaDoor.Abs
set_option linter.unusedSimpArgs false
set_option linter.unusedVariables false
open Go.RowKit
open Go.Proofs.YtibhgdglbillaaaDoor.Sim
open Go.Proofs
section
variable {P : Program} {nt d : Nat} {ops : Array Oper} {T : TypeId} {p : String} {af : Array Edge} {t : Fm} {m : AM} {K : Fm → AM → Prop}
end
theorem kds_at {m L : AM} {k : Nat} {l : List Kd} (h : L[k]? = some (gb (kvc l) 5)) : Kds (m ++ L) (gv (m.length + k) l.length) l := by
  have hlt : m.length + k < (m ++ L).length := by
    rw [List.length_append]
    have := (List.getElem?_eq_some_iff.1 h).1
    omega
  refine ⟨m.length + k, 0, gv_sl _ _, hlt, fun i hi => ?_⟩
  have hp : 0 < (kvc l).length := by rw [kvc_len]; omega
  rw [gb_pos hp] at h
  refine ⟨_, by rw [get_app]; exact h, fun j v hj => ?_⟩
  rw [Nat.zero_add]
  exact kvc_get l i hi j v hj
end Go.Proofs.YtibhgdglbillaaaDoor.Abs
namespace Go.Proofs.YtibhgdglbillaaaDoor.Abs
set_option linter.unusedSimpArgs false
set_option linter.unusedVariables false
open Go.RowKit
open Go.Proofs.YtibhgdglbillaaaDoor.Sim
def by8 (l : List UInt8) : List Value := l.map fun b => .int .u8 (b.toNat : Int)
theorem by8_len (l : List UInt8) : (by8 l).length = l.length := by simp [by8]
theorem by8_get {l : List UInt8} {j : Nat} (h : j < l.length) : (by8 l)[j]? = some (.int .u8 ((l[j]).toNat : Int)) := by simp [by8, h]
theorem by8_set (l : List UInt8) (i : Nat) (b : UInt8) : (by8 l).set i (.int .u8 (b.toNat : Int)) = by8 (l.set i b) := by simp [by8, List.map_set]
theorem by8_rep (n : Nat) : by8 (List.replicate n 0) = List.replicate n (.int .u8 0) := by simp [by8]
section
variable {P : Program} {nt : Nat} {ops : Array Oper} {t : Fm} {m : AM} {K : Fm → AM → Prop} {d T : Nat} {p : String} {af : Array Edge}
/-- A string made of bytes. -/
theorem Step.toStr {x : Operand} {S D e a o n : Nat} {v : Value} {l : List UInt8} (hx : evo t x = some v) (hs : Sl v a o n) (hn : l.length = n) (hrd : RdL m a o (by8 l)) (hS : P.underlying S = some (.slice e)) (he : P.underlying e = some (.int .u8)) (hD : P.underlying D = some .string)
    (hlt : Nat.blt d nt = true) (hK : K (put t d (.string ⟨l.toArray⟩)) m) : Step P nt ops ⟨some d, .convert S D x, T, p, af, none⟩ t m K := by
  refine .l rfl rfl hlt (by simp [stillB, hS]) (by simp [Op.operands, hx]) ?_
  intro base R w b Q next hb hm hev hn'
  have h1 := hev x (by simp [Op.operands])
  rw [evD_of hx] at h1
  have hrun : (convert S D (b.eval x)).run P w = .ok (.string ⟨l.toArray⟩) w := by
    generalize b.eval x = x' at h1
    rcases hs with ⟨rfl, h0⟩ | ⟨c, hc, rfl⟩ | ⟨h0, o', k, rfl⟩
    · obtain rfl : l = [] := List.eq_nil_of_length_eq_zero (by omega)
      cases h1
      rw [run_convert_bytes_string w S D e none 0 0 hS he hD]
      simp [Conv.bytesToString]
      rfl
    · cases h1 with
      | slice _ _ _ _ q hq hle =>
      subst hn
      refine run_convert_bytes_back w S D e _ _ l hS he hD fun j hj => ?_
      obtain ⟨blk, k1, k2⟩ := hrd
      obtain ⟨v', r1, r2⟩ := (hm.of k1 hq).cell (k2 j _ (by8_get hj))
      rw [Addr.add_lit]
      cases r2
      rw [Nat.add_assoc]
      exact r1
    · obtain rfl : l = [] := List.eq_nil_of_length_eq_zero (by omega)
      subst h0
      cases h1 with
      | sliceSpot _ _ _ q hq => exact run_convert_bytes_back w S D e _ _ [] hS he hD fun j hj => by simp at hj
  exact wp_of_does rfl (.inl (by simp [execOp, hrun])) (hn' R (.string ⟨l.toArray⟩) _ m w (.string _) (.refl hm) hK)
end
end Go.Proofs.YtibhgdglbillaaaDoor.Abs
namespace Go.Proofs.YtibhgdglbillaaaDoor.Abs
set_option linter.unusedSimpArgs false
set_option linter.unusedVariables false
open Go.RowKit
open Go.Proofs.YtibhgdglbillaaaDoor.Sim
open Go.Proofs
theorem un40 : Tryd.prog.underlying 40 = some (.slice 5) := by kernel_rfl
theorem un30 : Tryd.prog.underlying 30 = some (.slice 9) := by kernel_rfl
theorem el40 : elemB Tryd.prog 40 = some (5, 1, 1, #[.int .u8 0]) := by kernel_rfl
theorem el30 : elemB Tryd.prog 30 = some (9, 1, 16, #[.string ByteArray.empty]) := by kernel_rfl
/-- A made picture: h rows of w bytes; y of them are done. -/
def rowF (F : Nat → Nat → UInt8) (w y : Nat) : List UInt8 := (List.range w).map (F y)
def rowK (F : Nat → Nat → UInt8) (w y k : Nat) : List UInt8 := (List.range w).map fun x => if x < k then F y x else 0
def picK (F : Nat → Nat → UInt8) (w h k : Nat) : List Value := (List.range h).map fun y => if y < k then .string ⟨(rowF F w y).toArray⟩ else .string ByteArray.empty
theorem rowK_zero (F : Nat → Nat → UInt8) (w y : Nat) : rowK F w y 0 = List.replicate w 0 := by
  apply List.ext_getElem
  · simp [rowK]
  · intro i h1 h2
    simp [rowK]
theorem rowK_full (F : Nat → Nat → UInt8) (w y : Nat) : rowK F w y w = rowF F w y := by
  apply List.ext_getElem
  · simp [rowK, rowF]
  · intro i h1 h2
    simp only [rowK, List.length_map, List.length_range] at h1
    simp [rowK, rowF, h1]
theorem rowK_set (F : Nat → Nat → UInt8) (w y : Nat) (k : Nat) : (rowK F w y k).set k (F y k) = rowK F w y (k + 1) := by
  apply List.ext_getElem
  · simp [rowK]
  · intro i h1 h2
    simp only [rowK, List.length_set, List.length_map, List.length_range] at h1
    rw [List.getElem_set]
    by_cases e : k = i
    · subst e; simp [rowK]
    · rw [if_neg e]
      simp only [rowK, List.getElem_map, List.getElem_range]
      by_cases h : i < k
      · rw [if_pos h, if_pos (by omega)]
      · rw [if_neg h, if_neg (by omega)]
theorem picK_zero (F : Nat → Nat → UInt8) (w h : Nat) : picK F w h 0 = List.replicate h (.string ByteArray.empty) := by
  apply List.ext_getElem
  · simp [picK]
  · intro i h1 h2
    simp [picK]
theorem picK_set (F : Nat → Nat → UInt8) (w h : Nat) (k : Nat) : (picK F w h k).set k (.string ⟨(rowF F w k).toArray⟩) = picK F w h (k + 1) := by
  apply List.ext_getElem
  · simp [picK]
  · intro i h1 h2
    simp only [picK, List.length_set, List.length_map, List.length_range] at h1
    rw [List.getElem_set]
    by_cases e : k = i
    · subst e; simp [picK]
    · rw [if_neg e]
      simp only [picK, List.getElem_map, List.getElem_range]
      by_cases h : i < k
      · rw [if_pos h, if_pos (by omega)]
      · rw [if_neg h, if_neg (by omega)]
theorem picK_len (F : Nat → Nat → UInt8) (w h k : Nat) : (picK F w h k).length = h := by simp [picK]
theorem rowK_len (F : Nat → Nat → UInt8) (w h k : Nat) : (rowK F w h k).length = w := by simp [rowK]
theorem g0_picK (F : Nat → Nat → UInt8) (w h k : Nat) : ∀ v ∈ picK F w h k, g0 v = true := by
  intro v hv
  simp only [picK, List.mem_map] at hv
  obtain ⟨y, _, rfl⟩ := hv
  split <;> rfl
/-- The picture as a board. -/
def picB (F : Nat → Nat → UInt8) (w h : Nat) : Brd := (List.range h).map fun y => ⟨(rowF F w y).toArray⟩
theorem picB_strs {F : Nat → Nat → UInt8} {w h a n : Nat} {m : AM} {b : Blk} (hb : m[a]? = some (some b)) (hc : b.cells = picK F w h h) (hn : n = h) : Strs m (.slice (some ⟨a, 0, none⟩) n n) (picB F w h) := by
  subst hn
  refine ⟨a, 0, .inr (.inl ⟨n, by simp [picB], by simp [picB]⟩), (List.getElem?_eq_some_iff.1 hb).1, fun y hy => ⟨b, hb, ?_⟩⟩
  have hy' : y < n := by simpa [picB] using hy
  have e : rowOf (picB F w n) y = ⟨(rowF F w y).toArray⟩ := by
    unfold rowOf
    rw [getD_in _ _ hy]
    simp [picB]
  rw [hc, e, Nat.zero_add]
  simp [picK, hy']
theorem punch_pic (B : Brd) (r : R4) : punch B r = picB (pxl B r) (bw B) (bh B) := rfl
set_option maxHeartbeats 4000000 in
set_option maxRecDepth 100000 in
theorem pcell_ok {m : AM} {a b : Nat} {sv : Value} {B : Brd} {r : R4} (hs : Strs m sv B) (hb : Rd m b 0 sv) (hr : RdL m a 0 r.rc.cells) (h16 : r.x ≤ 48 ∧ r.y ≤ 48 ∧ r.a ≤ 48 ∧ r.b ≤ 48) {x y : Nat} (hy : y < bh B) (hx : x < (rowOf B y).size) :
    ACall Tryd.prog 111 #[.int .i64 (x : Nat), .int .i64 (y : Nat), .pointer (some ⟨a, 0, none⟩), .pointer (some ⟨b, 0, none⟩)] m (Ret (.int .u8 ((pxl B r y x).toNat : Nat)) m) := by
  obtain ⟨A, O, sl, la, rd⟩ := hs
  have ry := rd y hy
  have r0 : Rd m a (0 + 0) (.int .i64 (r.x : Nat)) := hr.at_ 0 rfl
  have r1 : Rd m a (0 + 1) (.int .i64 (r.y : Nat)) := hr.at_ 1 rfl
  have r2 : Rd m a (0 + 2) (.int .i64 (r.a : Nat)) := hr.at_ 2 rfl
  have r3 : Rd m a (0 + 3) (.int .i64 (r.b : Nat)) := hr.at_ 3 rfl
  have hyl : y < B.length := hy
  refine ACall.start Tryd.func111 rfl rfl ?_
  have no : ¬ (r.x ≤ x ∧ x < r.x + r.a ∧ r.y ≤ y ∧ y < r.y + r.b) → ((pxl B r y x).toNat : Int) = byteAt (rowOf B y) x := fun h => by
    unfold pxl inR
    rw [decide_eq_false h]
    rfl
  by_cases c1 : r.x ≤ x
  · by_cases c2 : x < r.x + r.a
    · by_cases c3 : r.y ≤ y
      · by_cases c4 : y < r.y + r.b
        · have e : ((pxl B r y x).toNat : Int) = 48 := by
            unfold pxl inR
            rw [decide_eq_true ⟨c1, c2, c3, c4⟩]
            rfl
          rw [e]
          (repeat (first | (with_reducible refine AWo.cons ?_) | ((with_reducible refine Step.id ?_); first | ((with_reducible apply Step.gdT); exact rfl; exact rfl; (focus ((simp only [decide_eq_true_eq, decide_eq_false_iff_not, Bool.not_eq_true', Bool.not_eq_false', Bool.not_true, Bool.not_false]; first | assumption | omega)))) | ((with_reducible apply Step.move); exact rfl; exact rfl) | ((with_reducible apply Step.assign); exact rfl; exact rfl) | ((with_reducible apply Step.load); exact rfl; (focus (decide +kernel)); exact rfl; (focus (exact Rd.old _ (by assumption)))) | ((with_reducible apply Step.field0); exact rfl; (focus (decide +kernel)); exact rfl) | ((with_reducible apply Step.field (k := 1)); exact rfl; (focus (decide +kernel)); exact rfl) | ((with_reducible apply Step.field (k := 2)); exact rfl; (focus (decide +kernel)); exact rfl) | ((with_reducible apply Step.field (k := 3)); exact rfl; (focus (decide +kernel)); exact rfl) | ((with_reducible apply Step.add); exact rfl; exact rfl; (focus (omega)); exact rfl) | ((with_reducible apply Step.lss); exact rfl; exact rfl; exact rfl) | ((with_reducible apply Step.geq); exact rfl; exact rfl; exact rfl) | ((with_reducible apply Step.pickT); exact rfl; exact rfl; exact rfl; exact rfl; (focus ((simp only [decide_eq_true_eq, decide_eq_false_iff_not, Bool.not_eq_true', Bool.not_eq_false', Bool.not_true, Bool.not_false]; first | assumption | omega))))) | (with_reducible refine AWo.nil ?_) | ((with_reducible apply AW.seq)) | ((with_reducible apply Then.n)) | ((with_reducible apply AW.regL)) | ((with_reducible apply AW.condT); exact rfl; (focus ((simp only [decide_eq_true_eq, decide_eq_false_iff_not, Bool.not_eq_true', Bool.not_eq_false', Bool.not_true, Bool.not_false]; first | assumption | omega))))))
          (refine AW.retD (l := [(6, _)]) (by repeat (first | exact trivial | (refine And.intro ⟨rfl, by (exact .int _ _)⟩ ?_))) ?_; (repeat (first | refine Then.r ?_ | refine InBlk.r ?_)))
          exact ⟨_, rfl, rfl, rfl⟩
        · rw [no (by omega)]
          (repeat (first | (with_reducible refine AWo.cons ?_) | ((with_reducible refine Step.id ?_); first | ((with_reducible apply Step.gdT); exact rfl; exact rfl; (focus ((simp only [decide_eq_true_eq, decide_eq_false_iff_not, Bool.not_eq_true', Bool.not_eq_false', Bool.not_true, Bool.not_false]; first | assumption | omega)))) | ((with_reducible apply Step.move); exact rfl; exact rfl) | ((with_reducible apply Step.assign); exact rfl; exact rfl) | ((with_reducible apply Step.load); exact rfl; (focus (decide +kernel)); exact rfl; (focus (exact Rd.old _ (by assumption)))) | ((with_reducible apply Step.ix1); exact rfl; (focus (assumption)); exact rfl; (focus (decide +kernel)); exact rfl; (focus (omega))) | ((with_reducible apply Step.field0); exact rfl; (focus (decide +kernel)); exact rfl) | ((with_reducible apply Step.field (k := 1)); exact rfl; (focus (decide +kernel)); exact rfl) | ((with_reducible apply Step.field (k := 2)); exact rfl; (focus (decide +kernel)); exact rfl) | ((with_reducible apply Step.field (k := 3)); exact rfl; (focus (decide +kernel)); exact rfl) | ((with_reducible apply Step.strIx); exact rfl; exact rfl; exact un9; (focus (omega)); exact rfl) | ((with_reducible apply Step.add); exact rfl; exact rfl; (focus (omega)); exact rfl) | ((with_reducible apply Step.lss); exact rfl; exact rfl; exact rfl) | ((with_reducible apply Step.geq); exact rfl; exact rfl; exact rfl) | ((with_reducible apply Step.pickT); exact rfl; exact rfl; exact rfl; exact rfl; (focus ((simp only [decide_eq_true_eq, decide_eq_false_iff_not, Bool.not_eq_true', Bool.not_eq_false', Bool.not_true, Bool.not_false]; first | assumption | omega))))) | (with_reducible refine AWo.nil ?_) | ((with_reducible apply AW.seq)) | ((with_reducible apply Then.n)) | ((with_reducible apply AW.regL)) | ((with_reducible apply AW.skip)) | ((with_reducible apply AW.condF); exact rfl; (focus ((simp only [decide_eq_true_eq, decide_eq_false_iff_not, Bool.not_eq_true', Bool.not_eq_false', Bool.not_true, Bool.not_false]; first | assumption | omega))))))
          (refine AW.retD (l := [(6, _)]) (by repeat (first | exact trivial | (refine And.intro ⟨rfl, by (exact .int _ _)⟩ ?_))) ?_; (repeat (first | refine Then.r ?_ | refine InBlk.r ?_)))
          exact ⟨_, rfl, rfl, rfl⟩
      · rw [no (by omega)]
        (repeat (first | (with_reducible refine AWo.cons ?_) | ((with_reducible refine Step.id ?_); first | ((with_reducible apply Step.gdT); exact rfl; exact rfl; (focus ((simp only [decide_eq_true_eq, decide_eq_false_iff_not, Bool.not_eq_true', Bool.not_eq_false', Bool.not_true, Bool.not_false]; first | assumption | omega)))) | ((with_reducible apply Step.gdF); exact rfl; exact rfl; (focus ((simp only [decide_eq_true_eq, decide_eq_false_iff_not, Bool.not_eq_true', Bool.not_eq_false', Bool.not_true, Bool.not_false]; first | assumption | omega)))) | ((with_reducible apply Step.move); exact rfl; exact rfl) | ((with_reducible apply Step.assign); exact rfl; exact rfl) | ((with_reducible apply Step.load); exact rfl; (focus (decide +kernel)); exact rfl; (focus (exact Rd.old _ (by assumption)))) | ((with_reducible apply Step.ix1); exact rfl; (focus (assumption)); exact rfl; (focus (decide +kernel)); exact rfl; (focus (omega))) | ((with_reducible apply Step.field0); exact rfl; (focus (decide +kernel)); exact rfl) | ((with_reducible apply Step.field (k := 1)); exact rfl; (focus (decide +kernel)); exact rfl) | ((with_reducible apply Step.field (k := 2)); exact rfl; (focus (decide +kernel)); exact rfl) | ((with_reducible apply Step.strIx); exact rfl; exact rfl; exact un9; (focus (omega)); exact rfl) | ((with_reducible apply Step.add); exact rfl; exact rfl; (focus (omega)); exact rfl) | ((with_reducible apply Step.lss); exact rfl; exact rfl; exact rfl) | ((with_reducible apply Step.geq); exact rfl; exact rfl; exact rfl) | ((with_reducible apply Step.pickT); exact rfl; exact rfl; exact rfl; exact rfl; (focus ((simp only [decide_eq_true_eq, decide_eq_false_iff_not, Bool.not_eq_true', Bool.not_eq_false', Bool.not_true, Bool.not_false]; first | assumption | omega)))) | ((with_reducible apply Step.pickF); exact rfl; exact rfl; exact rfl; exact rfl; (focus ((simp only [decide_eq_true_eq, decide_eq_false_iff_not, Bool.not_eq_true', Bool.not_eq_false', Bool.not_true, Bool.not_false]; first | assumption | omega))))) | (with_reducible refine AWo.nil ?_) | ((with_reducible apply AW.seq)) | ((with_reducible apply Then.n)) | ((with_reducible apply AW.regL)) | ((with_reducible apply AW.skip)) | ((with_reducible apply AW.condF); exact rfl; (focus (rfl)))))
        (refine AW.retD (l := [(6, _)]) (by repeat (first | exact trivial | (refine And.intro ⟨rfl, by (exact .int _ _)⟩ ?_))) ?_; (repeat (first | refine Then.r ?_ | refine InBlk.r ?_)))
        exact ⟨_, rfl, rfl, rfl⟩
    · rw [no (by omega)]
      (repeat (first | (with_reducible refine AWo.cons ?_) | ((with_reducible refine Step.id ?_); first | ((with_reducible apply Step.gdT); exact rfl; exact rfl; (focus ((simp only [decide_eq_true_eq, decide_eq_false_iff_not, Bool.not_eq_true', Bool.not_eq_false', Bool.not_true, Bool.not_false]; first | assumption | omega)))) | ((with_reducible apply Step.gdF); exact rfl; exact rfl; (focus (first | rfl | (simp only [decide_eq_true_eq, decide_eq_false_iff_not, Bool.not_eq_true', Bool.not_eq_false', Bool.not_true, Bool.not_false]; first | assumption | omega)))) | ((with_reducible apply Step.move); exact rfl; exact rfl) | ((with_reducible apply Step.assign); exact rfl; exact rfl) | ((with_reducible apply Step.load); exact rfl; (focus (decide +kernel)); exact rfl; (focus (exact Rd.old _ (by assumption)))) | ((with_reducible apply Step.ix1); exact rfl; (focus (assumption)); exact rfl; (focus (decide +kernel)); exact rfl; (focus (omega))) | ((with_reducible apply Step.field0); exact rfl; (focus (decide +kernel)); exact rfl) | ((with_reducible apply Step.field (k := 2)); exact rfl; (focus (decide +kernel)); exact rfl) | ((with_reducible apply Step.strIx); exact rfl; exact rfl; exact un9; (focus (omega)); exact rfl) | ((with_reducible apply Step.add); exact rfl; exact rfl; (focus (omega)); exact rfl) | ((with_reducible apply Step.lss); exact rfl; exact rfl; exact rfl) | ((with_reducible apply Step.geq); exact rfl; exact rfl; exact rfl) | ((with_reducible apply Step.pickT); exact rfl; exact rfl; exact rfl; exact rfl; (focus ((simp only [decide_eq_true_eq, decide_eq_false_iff_not, Bool.not_eq_true', Bool.not_eq_false', Bool.not_true, Bool.not_false]; first | assumption | omega)))) | ((with_reducible apply Step.pickF); exact rfl; exact rfl; exact rfl; exact rfl; (focus (first | rfl | (simp only [decide_eq_true_eq, decide_eq_false_iff_not, Bool.not_eq_true', Bool.not_eq_false', Bool.not_true, Bool.not_false]; first | assumption | omega))))) | (with_reducible refine AWo.nil ?_) | ((with_reducible apply AW.seq)) | ((with_reducible apply Then.n)) | ((with_reducible apply AW.regL)) | ((with_reducible apply AW.skip)) | ((with_reducible apply AW.condF); exact rfl; (focus (rfl)))))
      (refine AW.retD (l := [(6, _)]) (by repeat (first | exact trivial | (refine And.intro ⟨rfl, by (exact .int _ _)⟩ ?_))) ?_; (repeat (first | refine Then.r ?_ | refine InBlk.r ?_)))
      exact ⟨_, rfl, rfl, rfl⟩
  · rw [no (by omega)]
    (repeat (first | (with_reducible refine AWo.cons ?_) | ((with_reducible refine Step.id ?_); first | ((with_reducible apply Step.gdF); exact rfl; exact rfl; (focus (first | rfl | (simp only [decide_eq_true_eq, decide_eq_false_iff_not, Bool.not_eq_true', Bool.not_eq_false', Bool.not_true, Bool.not_false]; first | assumption | omega)))) | ((with_reducible apply Step.move); exact rfl; exact rfl) | ((with_reducible apply Step.assign); exact rfl; exact rfl) | ((with_reducible apply Step.load); exact rfl; (focus (decide +kernel)); exact rfl; (focus (exact Rd.old _ (by assumption)))) | ((with_reducible apply Step.ix1); exact rfl; (focus (assumption)); exact rfl; (focus (decide +kernel)); exact rfl; (focus (omega))) | ((with_reducible apply Step.field0); exact rfl; (focus (decide +kernel)); exact rfl) | ((with_reducible apply Step.strIx); exact rfl; exact rfl; exact un9; (focus (omega)); exact rfl) | ((with_reducible apply Step.geq); exact rfl; exact rfl; exact rfl) | ((with_reducible apply Step.pickF); exact rfl; exact rfl; exact rfl; exact rfl; (focus (first | rfl | (simp only [decide_eq_true_eq, decide_eq_false_iff_not, Bool.not_eq_true', Bool.not_eq_false', Bool.not_true, Bool.not_false]; first | assumption | omega))))) | (with_reducible refine AWo.nil ?_) | ((with_reducible apply AW.seq)) | ((with_reducible apply Then.n)) | ((with_reducible apply AW.regL)) | ((with_reducible apply AW.skip)) | ((with_reducible apply AW.condF); exact rfl; (focus (rfl)))))
    (refine AW.retD (l := [(6, _)]) (by repeat (first | exact trivial | (refine And.intro ⟨rfl, by (exact .int _ _)⟩ ?_))) ?_; (repeat (first | refine Then.r ?_ | refine InBlk.r ?_)))
    exact ⟨_, rfl, rfl, rfl⟩
set_option maxHeartbeats 4000000 in
set_option maxRecDepth 100000 in
theorem turned_ok {m : AM} {w h : Nat} {F : Nat → Nat → UInt8} {g : FuncId} {fn : Func} {b : Code} {caps : Array Value} (hw : 1 ≤ w ∧ w ≤ 48) (hh : 1 ≤ h ∧ h ≤ 48) (hf : Tryd.prog.funcs[g]? = some fn) (hb : fn.body = some b) (hlow : Low m.length (.func (.func g) #[] caps))
    (hF : ∀ x y, x < w → y < h → ∀ T, ACall Tryd.prog g (#[.int .i64 (x : Nat), .int .i64 (y : Nat)] ++ caps) (m ++ T) (Ret (.int .u8 ((F y x).toNat : Nat)) (m ++ T))) :
    ACall Tryd.prog 110 #[.int .i64 (w : Nat), .int .i64 (h : Nat), .func (.func g) #[] caps] m (New (some { cells := picK F w h h }) h m) := by
  refine ACall.start Tryd.func110 rfl rfl ?_
  (repeat (first | (with_reducible refine AWo.cons ?_) | ((with_reducible refine Step.id ?_); first | ((with_reducible apply Step.move); exact rfl; exact rfl) | ((with_reducible apply Step.assign); exact rfl; exact rfl) | ((with_reducible apply Step.len); exact rfl; (focus (exact Sl.mk (by omega))); (focus (decide +kernel)); exact rfl) | ((with_reducible apply Step.make1 0); exact rfl; exact rfl; exact rfl; exact el30; (focus (omega)); exact rfl; (focus (first | (simp only [List.nil_append, List.cons_append, List.set_cons_zero, List.set_cons_succ, iv_set, bv_set, iv_rep, bv_rep]; done) | (simp only [List.nil_append, List.cons_append, List.set_cons_zero, List.set_cons_succ, iv_set, bv_set, iv_rep, bv_rep]; rfl) | rfl)))) | (with_reducible refine AWo.nil ?_) | ((with_reducible apply AW.seq)) | ((with_reducible apply Then.n)) | ((with_reducible apply AW.regL)) | ((with_reducible apply AW.block))))
  refine AW.loopT (fun n t L => ∃ y : Nat, n = h - y ∧ y ≤ h ∧ L = [some { cells := picK F w h y }] ∧
    t = [(0, .int .i64 (w : Nat)), (2, .func (.func g) #[] caps), (7, .slice (some ⟨m.length + 0, 0, none⟩) h h), (14, .int .i64 (h : Nat)), (15, .int .i64 (y : Nat))])
    ⟨_, _, _, (Or.inl ⟨rfl, (by repeat (first | exact trivial | (refine And.intro rfl ?_)))⟩), 0, rfl, Nat.zero_le _, by rw [picK_zero], rfl⟩ ?_
  rintro n t L ⟨y, rfl, hy, rfl, rfl⟩
  rcases Nat.lt_or_ge y h with hlt | hge
  · have gp := g0_picK F w h y
    (repeat (first | (with_reducible refine AWo.cons ?_) | ((with_reducible refine Step.id ?_); first | ((with_reducible apply Step.move); exact rfl; exact rfl) | ((with_reducible apply Step.assign); exact rfl; exact rfl) | ((with_reducible apply Step.lss); exact rfl; exact rfl; exact rfl) | ((with_reducible apply Step.len); exact rfl; (focus (exact Sl.mk (by omega))); (focus (decide +kernel)); exact rfl) | ((with_reducible apply Step.make1 1); exact rfl; exact rfl; exact rfl; exact el40; (focus (omega)); exact rfl; (focus (first | (simp only [List.nil_append, List.cons_append, List.set_cons_zero, List.set_cons_succ, iv_set, bv_set, iv_rep, bv_rep]; done) | (simp only [List.nil_append, List.cons_append, List.set_cons_zero, List.set_cons_succ, iv_set, bv_set, iv_rep, bv_rep]; rfl) | rfl)))) | (with_reducible refine AWo.nil ?_) | ((with_reducible apply AW.seq)) | ((with_reducible apply Then.n)) | ((with_reducible apply AW.regL)) | ((with_reducible apply AW.block)) | ((with_reducible apply AW.skip)) | ((with_reducible apply AW.condT); exact rfl; (focus ((simp only [decide_eq_true_eq, decide_eq_false_iff_not, Bool.not_eq_true', Bool.not_eq_false', Bool.not_true, Bool.not_false]; first | assumption | omega))))))
    refine AW.loopT (fun n t L => ∃ x : Nat, n = w - x ∧ x ≤ w ∧ L = [some { cells := picK F w h y }, some { cells := by8 (rowK F w y x) }] ∧
      t = [(0, .int .i64 (w : Nat)), (2, .func (.func g) #[] caps), (7, .slice (some ⟨m.length + 0, 0, none⟩) h h), (8, .int .i64 (y : Nat)), (9, .slice (some ⟨m.length + 1, 0, none⟩) w w), (14, .int .i64 (h : Nat)), (15, .int .i64 (y : Nat)), (21, .int .i64 (w : Nat)), (22, .int .i64 (x : Nat))])
      ⟨_, _, _, (Or.inl ⟨rfl, (by repeat (first | exact trivial | (refine And.intro rfl ?_)))⟩), 0, rfl, Nat.zero_le _, by rw [rowK_zero, by8_rep], rfl⟩ ?_
    rintro n t L ⟨x, rfl, hx, rfl, rfl⟩
    rcases Nat.lt_or_ge x w with hxl | hxg
    · have hc := hF x y hxl hlt
      have hst := rowK_set F w y x
      have hl := rowK_len F w y x
      have hl8 := by8_len (rowK F w y x)
      generalize hr0 : rowK F w y x = r at *
      (repeat (first | (with_reducible refine AWo.cons ?_) | ((with_reducible refine Step.id ?_); first | ((with_reducible apply Step.move); exact rfl; exact rfl) | ((with_reducible apply Step.assign); exact rfl; exact rfl) | ((with_reducible apply Step.ix1z); exact rfl; (focus (exact Sl.mk (by omega))); exact rfl; (focus (decide +kernel)); exact rfl; (focus (omega))) | ((with_reducible apply Step.add); exact rfl; exact rfl; (focus (omega)); exact rfl) | ((with_reducible apply Step.lss); exact rfl; exact rfl; exact rfl) | ((with_reducible apply Step.callV fit); exact rfl; exact rfl; exact hf; exact hb; exact rfl; exact (hc _)) | ((with_reducible apply Step.store (k := 1)); exact rfl; exact rfl; exact rfl; exact rfl; (focus (decide +kernel)); exact rfl; exact rfl; (focus (first | omega | (simp [iv, bv]; done) | (simp [iv, bv]; omega))); (focus (first | (simp only [List.nil_append, List.cons_append, List.set_cons_zero, List.set_cons_succ, iv_set, bv_set, iv_rep, bv_rep]; done) | (simp only [List.nil_append, List.cons_append, List.set_cons_zero, List.set_cons_succ, iv_set, bv_set, iv_rep, bv_rep]; rfl) | rfl)))) | (with_reducible refine AWo.nil ?_) | ((with_reducible apply AW.seq)) | ((with_reducible apply Then.n)) | ((with_reducible apply AW.regL)) | ((with_reducible apply AW.block)) | ((with_reducible apply InBlk.n)) | ((with_reducible apply AW.skip)) | ((with_reducible apply AW.condT); exact rfl; (focus ((simp only [decide_eq_true_eq, decide_eq_false_iff_not, Bool.not_eq_true', Bool.not_eq_false', Bool.not_true, Bool.not_false]; first | assumption | omega))))))
      exact ⟨_, _, [some { cells := picK F w h y }, some { cells := by8 (rowK F w y (x + 1)) }], by omega, (Or.inl ⟨by rw [← hst, ← by8_set], (by repeat (first | exact trivial | (refine And.intro rfl ?_)))⟩), x + 1, rfl, by omega, rfl, rfl⟩
    · obtain rfl : x = w := by omega
      have hr8 : ∀ T, RdL (m ++ ([some { cells := picK F x h y }, some { cells := by8 (rowK F x y x) }] ++ T)) (m.length + 1) 0 (by8 (rowF F x y)) := fun T => by rw [← rowK_full]; exact RdL.new rfl rfl
      have hrl : (rowF F x y).length = x := by simp [rowF]
      have hpl := picK_len F x h y
      have hst := picK_set F x h y
      (repeat (first | (with_reducible refine AWo.cons ?_) | ((with_reducible refine Step.id ?_); first | ((with_reducible apply Step.move); exact rfl; exact rfl) | ((with_reducible apply Step.lss); exact rfl; exact rfl; exact rfl)) | (with_reducible refine AWo.nil ?_) | ((with_reducible apply AW.seq)) | ((with_reducible apply Then.n)) | ((with_reducible apply AW.regL)) | ((with_reducible apply AW.exit)) | ((with_reducible apply InBlk.hit)) | ((with_reducible apply Then.e)) | ((with_reducible apply AW.condF); exact rfl; (focus ((simp only [decide_eq_true_eq, decide_eq_false_iff_not, Bool.not_eq_true', Bool.not_eq_false', Bool.not_true, Bool.not_false]; first | assumption | omega))))))
      ((with_reducible apply Step.toStr (l := rowF F x y)); exact rfl; exact (Sl.mk (Nat.le_refl _)); exact hrl; (focus (simpa using hr8 [])); exact un40; exact un5; exact un9; exact rfl)
      (repeat (first | (with_reducible refine AWo.cons ?_) | ((with_reducible refine Step.id ?_); first | ((with_reducible apply Step.move); exact rfl; exact rfl) | ((with_reducible apply Step.ix1z); exact rfl; (focus (exact Sl.mk (by omega))); exact rfl; (focus (decide +kernel)); exact rfl; (focus (omega))) | ((with_reducible apply Step.add); exact rfl; exact rfl; (focus (omega)); exact rfl) | ((with_reducible apply Step.store (k := 0)); exact rfl; exact rfl; exact rfl; exact rfl; (focus (decide +kernel)); exact rfl; exact rfl; (focus (first | omega | (simp [iv, bv]; done) | (simp [iv, bv]; omega))); (focus (first | (simp only [List.nil_append, List.cons_append, List.set_cons_zero, List.set_cons_succ, iv_set, bv_set, iv_rep, bv_rep]; done) | (simp only [List.nil_append, List.cons_append, List.set_cons_zero, List.set_cons_succ, iv_set, bv_set, iv_rep, bv_rep]; rfl) | rfl)))) | (with_reducible refine AWo.nil ?_) | ((with_reducible apply Then.n)) | ((with_reducible apply AW.regL)) | ((with_reducible apply InBlk.n))))
      exact ⟨_, [(0, .int .i64 (x : Nat)), (2, .func (.func g) #[] caps), (7, .slice (some ⟨m.length + 0, 0, none⟩) h h), (14, .int .i64 (h : Nat)), (15, .int .i64 (y + 1 : Nat))], [some { cells := picK F x h (y + 1) }], by omega, by rw [← hst]; have gp' : ∀ v ∈ (picK F x h y).set y (.string ⟨(rowF F x y).toArray⟩), g0 v = true := (by rw [hst]; exact g0_picK _ _ _ _); exact (Back.trim rfl rfl (by repeat (first | exact CellsOk.nil | refine CellsOk.cons (by assumption) ?_)) (by repeat (first | exact trivial | (refine And.intro ⟨rfl, by (first | exact Low.rid (by assumption) (by simp) | exact .int _ _ | exact .slice _ _ _ _ (by first | (simp; done) | omega | (simp; omega)))⟩ ?_)))), y + 1, rfl, by omega, rfl, rfl⟩
  · obtain rfl : y = h := by omega
    (repeat (first | (with_reducible refine AWo.cons ?_) | ((with_reducible refine Step.id ?_); first | ((with_reducible apply Step.move); exact rfl; exact rfl) | ((with_reducible apply Step.assign); exact rfl; exact rfl) | ((with_reducible apply Step.lss); exact rfl; exact rfl; exact rfl)) | (with_reducible refine AWo.nil ?_) | ((with_reducible apply AW.seq)) | ((with_reducible apply Then.n)) | ((with_reducible apply AW.regL)) | ((with_reducible apply AW.exit)) | ((with_reducible apply InBlk.hit)) | ((with_reducible apply Then.e)) | ((with_reducible apply AW.condF); exact rfl; (focus ((simp only [decide_eq_true_eq, decide_eq_false_iff_not, Bool.not_eq_true', Bool.not_eq_false', Bool.not_true, Bool.not_false]; first | assumption | omega))))))
    (refine AW.retB (l := [(6, _)]) (Or.inl ⟨rfl, (by repeat (first | exact trivial | (refine And.intro rfl ?_)))⟩) ?_; (repeat (first | refine Then.r ?_ | refine InBlk.r ?_)))
    exact ⟨_, rfl, rfl, rfl⟩
end Go.Proofs.YtibhgdglbillaaaDoor.Abs
namespace Go.Proofs.YtibhgdglbillaaaDoor.Abs
set_option linter.unusedSimpArgs false
set_option linter.unusedVariables false
open Go.RowKit
open Go.Proofs.YtibhgdglbillaaaDoor.Sim
open Go.Proofs
theorem rcRight {w h : Nat} {r : R4} (hr : r.ok w h) : rightB r.rc = true := by
  unfold rightB R4.rc rcN
  unfold R4.ok at hr
  rw [decide_eq_true_eq]
  dsimp only
  omega
theorem rcLies {w h : Nat} {r : R4} (hr : r.ok w h) : liesB r.rc (w : Nat) (h : Nat) = true := by
  unfold liesB R4.rc rcN
  unfold R4.ok at hr
  rw [decide_eq_true_eq]
  dsimp only
  omega
set_option maxHeartbeats 4000000 in
set_option maxRecDepth 100000 in
theorem sfits_ok {m : AM} {sv : Value} {B : Brd} {r : R4} (hs : Strs m sv B) (hv : skinB B = true) (hr : r.ok (bw B) (bh B)) : ACall Tryd.prog 109 #[sv, r.rc.v] m (Ret (.int .i64 0) m) := by
  have hin := skin_in hv
  have h1 := fun T => Valid_ok (hs.old T)
  have h2 := fun M => right_ok (m := M) r.rc
  have h3 := fun M => inside_ok (m := M) r.rc (bw B : Nat) (bh B : Nat) (rcRight hr) (by omega) (by omega)
  rw [hv] at h1
  rw [rcRight hr] at h2
  rw [rcLies hr] at h3
  change ∀ M, ACall Tryd.prog 121 #[.agg r.rc.cells.toArray] _ _ at h2
  change ∀ M, ACall Tryd.prog 122 #[.agg r.rc.cells.toArray, .int .i64 ((rowOf B 0).size : Nat), .int .i64 (B.length : Nat)] _ _ at h3
  change ACall Tryd.prog 109 #[sv, .agg r.rc.cells.toArray] m _
  obtain ⟨A, O, sl, la, rd⟩ := id hs
  have r0 := rd 0 hin.1.1
  have hl0 : 0 < B.length := hin.1.1
  generalize r.rc = g at *
  refine ACall.start Tryd.func109 rfl rfl ?_
  (repeat (first | (with_reducible refine AWo.cons ?_) | ((with_reducible refine Step.id ?_); first | ((with_reducible apply Step.gdT); exact rfl; exact rfl; (focus (rfl))) | ((with_reducible apply Step.move); exact rfl; exact rfl) | ((with_reducible apply Step.assign); exact rfl; exact rfl) | ((with_reducible apply Step.load); exact rfl; (focus (decide +kernel)); exact rfl; (focus (exact Rd.old _ (by assumption)))) | ((with_reducible apply Step.loadL (n := 4)); exact rfl; (focus (decide +kernel)); (focus (decide +kernel)); exact rfl; (focus (exact RdL.new rfl rfl)); exact rfl; exact rfl) | ((with_reducible apply Step.ix1); exact rfl; (focus (assumption)); exact rfl; (focus (decide +kernel)); exact rfl; (focus (omega))) | ((with_reducible apply Step.lenS); exact rfl; exact un9; exact rfl) | ((with_reducible apply Step.len); exact rfl; (focus (assumption)); (focus (decide +kernel)); exact rfl) | ((with_reducible apply Step.not); exact rfl; exact rfl) | ((with_reducible apply Step.pickF); exact rfl; exact rfl; exact rfl; exact rfl; (focus (rfl))) | ((with_reducible apply Step.callR fit); exact rfl; exact Tryd.func99; exact rfl; exact rfl; exact (h1 _)) | ((with_reducible apply Step.callR fit); exact rfl; exact Tryd.func121; exact rfl; exact rfl; exact (h2 _)) | ((with_reducible apply Step.callR fit); exact rfl; exact Tryd.func122; exact rfl; exact rfl; exact (h3 _)) | ((with_reducible apply Step.box 0); exact rfl; exact rfl; (focus (kernel_rfl)); exact rfl; (focus (first | (simp only [List.nil_append, List.cons_append, List.set_cons_zero, List.set_cons_succ, iv_set, bv_set, iv_rep, bv_rep]; done) | (simp only [List.nil_append, List.cons_append, List.set_cons_zero, List.set_cons_succ, iv_set, bv_set, iv_rep, bv_rep]; rfl) | rfl)))) | (with_reducible refine AWo.nil ?_) | ((with_reducible apply AW.seq)) | ((with_reducible apply Then.n)) | ((with_reducible apply AW.regL)) | ((with_reducible apply AW.block)) | ((with_reducible apply AW.drawL fit); (focus (decide +kernel))) | ((with_reducible apply InBlk.n)) | ((with_reducible apply AW.skip)) | ((with_reducible apply AW.condF); exact rfl; (focus (rfl)))))
  (refine AW.retD (l := [(4, _)]) (by repeat (first | exact trivial | (refine And.intro ⟨rfl, by (exact .int _ _)⟩ ?_))) ?_; (repeat (first | refine Then.r ?_ | refine InBlk.r ?_)))
  exact ⟨_, rfl, rfl, rfl⟩
set_option maxHeartbeats 4000000 in
set_option maxRecDepth 100000 in
theorem Punch_ok {m : AM} {sv : Value} {B : Brd} {r : R4} (hs : Strs m sv B) (hv : skinB B = true) (hr : r.ok (bw B) (bh B)) : ACall Tryd.prog 91 #[sv, r.rc.v] m (More (fun M w => ∃ u, w = .tuple #[u, .int .i64 0] ∧ Strs M u (punch B r)) m) := by
  have hin := skin_in hv
  have hF := fun T => sfits_ok (hs.old T) hv hr
  have h16 : r.x ≤ 48 ∧ r.y ≤ 48 ∧ r.a ≤ 48 ∧ r.b ≤ 48 := by unfold R4.ok at hr; omega
  obtain ⟨A, O, sl, la, rd⟩ := id hs
  have r0 := rd 0 hin.1.1
  have hl0 : 0 < B.length := hin.1.1
  obtain ⟨q, c, rfl⟩ := sl.shape
  have hT : ∀ M0, M0 = m ++ [some { cells := [.slice q B.length c] }, some { cells := r.rc.cells }] → ACall Tryd.prog 110 #[.int .i64 ((rowOf B 0).size : Nat), .int .i64 (B.length : Nat), .func (.func 111) #[] #[.pointer (some ⟨m.length + 1, 0, none⟩), .pointer (some ⟨m.length + 0, 0, none⟩)]] M0 (New (some { cells := picK (pxl B r) (bw B) (bh B) (bh B) }) (bh B) M0) := fun M0 e => by
    have hl : M0.length = m.length + 2 := by rw [e]; simp
    refine turned_ok (w := bw B) (h := bh B) hin.2 hin.1 Tryd.func111 rfl (Low.func (c := [_, _]) (by intro v hv; simp only [List.mem_cons, List.not_mem_nil, or_false] at hv; rcases hv with rfl | rfl <;> exact Low.ptr (by omega))) fun x y hx hy T => ?_
    have e2 : M0 ++ T = m ++ (some { cells := [.slice q B.length c] } :: some { cells := r.rc.cells } :: T) := by rw [e]; simp
    rw [e2]
    exact pcell_ok (hs.old _) (Rd.new rfl rfl) (RdL.new rfl rfl) h16 hy (by rw [(skinRow hv hy).1]; exact hx)
  change ∀ T, ACall Tryd.prog 109 #[_, .agg r.rc.cells.toArray] _ _ at hF
  change ACall Tryd.prog 91 #[_, .agg r.rc.cells.toArray] m _
  refine ACall.start Tryd.func91 rfl rfl ?_
  (repeat (first | (with_reducible refine AWo.cons ?_) | ((with_reducible refine Step.id ?_); first | ((with_reducible apply Step.move); exact rfl; exact rfl) | ((with_reducible apply Step.assign); exact rfl; exact rfl) | ((with_reducible apply Step.load); exact rfl; (focus (decide +kernel)); exact rfl; (focus (first | exact Rd.new rfl rfl | exact Rd.old _ (by assumption)))) | ((with_reducible apply Step.loadL (n := 4)); exact rfl; (focus (decide +kernel)); (focus (decide +kernel)); exact rfl; (focus (exact RdL.new rfl rfl)); exact rfl; exact rfl) | ((with_reducible apply Step.ix1); exact rfl; (focus (assumption)); exact rfl; (focus (decide +kernel)); exact rfl; (focus (omega))) | ((with_reducible apply Step.lenS); exact rfl; exact un9; exact rfl) | ((with_reducible apply Step.neq); exact rfl; exact rfl; exact rfl) | ((with_reducible apply Step.len); exact rfl; (focus (assumption)); (focus (decide +kernel)); exact rfl) | ((with_reducible apply Step.fn); exact rfl; exact rfl; exact rfl) | ((with_reducible apply Step.callR fit); exact rfl; exact Tryd.func109; exact rfl; exact rfl; exact (hF _)) | ((with_reducible apply Step.callN fit (k := 2)); exact rfl; exact rfl; exact Tryd.func110; exact rfl; exact rfl; exact (hT _ rfl); (focus (first | (simp only [List.nil_append, List.cons_append, List.set_cons_zero, List.set_cons_succ, iv_set, bv_set, iv_rep, bv_rep]; done) | (simp only [List.nil_append, List.cons_append, List.set_cons_zero, List.set_cons_succ, iv_set, bv_set, iv_rep, bv_rep]; rfl) | rfl))) | ((with_reducible apply Step.box 0); exact rfl; exact rfl; (focus (kernel_rfl)); exact rfl; (focus (first | (simp only [List.nil_append, List.cons_append, List.set_cons_zero, List.set_cons_succ, iv_set, bv_set, iv_rep, bv_rep]; done) | (simp only [List.nil_append, List.cons_append, List.set_cons_zero, List.set_cons_succ, iv_set, bv_set, iv_rep, bv_rep]; rfl) | rfl))) | ((with_reducible apply Step.box 1); exact rfl; exact rfl; (focus (kernel_rfl)); exact rfl; (focus (first | (simp only [List.nil_append, List.cons_append, List.set_cons_zero, List.set_cons_succ, iv_set, bv_set, iv_rep, bv_rep]; done) | (simp only [List.nil_append, List.cons_append, List.set_cons_zero, List.set_cons_succ, iv_set, bv_set, iv_rep, bv_rep]; rfl) | rfl)))) | (with_reducible refine AWo.nil ?_) | ((with_reducible apply AW.seq)) | ((with_reducible apply Then.n)) | ((with_reducible apply AW.regL)) | ((with_reducible apply AW.drawL fit); (focus (decide +kernel))) | ((with_reducible apply AW.skip)) | ((with_reducible apply AW.condF); exact rfl; (focus (rfl)))))
  (refine AW.ret ?_; (repeat (first | refine Then.r ?_ | refine InBlk.r ?_)))
  refine ⟨_, rfl, [some { cells := [.slice q B.length c] }, some { cells := r.rc.cells }, some { cells := picK (pxl B r) (bw B) (bh B) (bh B) }], rfl, _, rfl, ?_⟩
  rw [punch_pic]
  exact picB_strs (b := { cells := picK (pxl B r) (bw B) (bh B) (bh B) }) (by rw [get_app]; rfl) rfl rfl
end Go.Proofs.YtibhgdglbillaaaDoor.Abs
namespace Go.Proofs.YtibhgdglbillaaaDoor.Abs
set_option linter.unusedSimpArgs false
set_option linter.unusedVariables false
open Go.RowKit
open Go.Proofs.YtibhgdglbillaaaDoor.Sim
open Go.Proofs
set_option maxHeartbeats 4000000 in
set_option maxRecDepth 100000 in
theorem checked_ok {m : AM} {sv : Value} {B : Brd} {r : R4} (hs : Strs m sv B) (hv : skinB B = true) (hr : r.ok (bw B) (bh B)) : ACall Tryd.prog 112 #[sv, r.rc.v] m (Ret (.int .i64 0) m) := by
  have hin := skin_in hv
  have h1 := fun T => RValid_ok (hs.old T)
  have h2 := fun M => Rect_ok (m := M) r.rc
  have h3 := fun M => Lies_ok (m := M) r.rc (bw B : Nat) (bh B : Nat) (rcRight hr) (by omega) (by omega)
  rw [hv] at h1
  rw [rcRight hr] at h2
  rw [rcLies hr] at h3
  change ∀ M, ACall Tryd.prog 53 #[.agg r.rc.cells.toArray] _ _ at h2
  change ∀ M, ACall Tryd.prog 54 #[.agg r.rc.cells.toArray, .int .i64 ((rowOf B 0).size : Nat), .int .i64 (B.length : Nat)] _ _ at h3
  change ACall Tryd.prog 112 #[sv, .agg r.rc.cells.toArray] m _
  obtain ⟨A, O, sl, la, rd⟩ := id hs
  have r0 := rd 0 hin.1.1
  have hl0 : 0 < B.length := hin.1.1
  generalize r.rc = g at *
  refine ACall.start Tryd.func112 rfl rfl ?_
  (repeat (first | (with_reducible refine AWo.cons ?_) | ((with_reducible refine Step.id ?_); first | ((with_reducible apply Step.gdT); exact rfl; exact rfl; (focus (rfl))) | ((with_reducible apply Step.move); exact rfl; exact rfl) | ((with_reducible apply Step.assign); exact rfl; exact rfl) | ((with_reducible apply Step.load); exact rfl; (focus (decide +kernel)); exact rfl; (focus (exact Rd.old _ (by assumption)))) | ((with_reducible apply Step.loadL (n := 4)); exact rfl; (focus (decide +kernel)); (focus (decide +kernel)); exact rfl; (focus (exact RdL.new rfl rfl)); exact rfl; exact rfl) | ((with_reducible apply Step.ix1); exact rfl; (focus (assumption)); exact rfl; (focus (decide +kernel)); exact rfl; (focus (omega))) | ((with_reducible apply Step.lenS); exact rfl; exact un9; exact rfl) | ((with_reducible apply Step.len); exact rfl; (focus (assumption)); (focus (decide +kernel)); exact rfl) | ((with_reducible apply Step.not); exact rfl; exact rfl) | ((with_reducible apply Step.pickF); exact rfl; exact rfl; exact rfl; exact rfl; (focus (rfl))) | ((with_reducible apply Step.callR fit); exact rfl; exact Tryd.func52; exact rfl; exact rfl; exact (h1 _)) | ((with_reducible apply Step.callR fit); exact rfl; exact Tryd.func53; exact rfl; exact rfl; exact (h2 _)) | ((with_reducible apply Step.callR fit); exact rfl; exact Tryd.func54; exact rfl; exact rfl; exact (h3 _)) | ((with_reducible apply Step.box 0); exact rfl; exact rfl; (focus (kernel_rfl)); exact rfl; (focus (first | (simp only [List.nil_append, List.cons_append, List.set_cons_zero, List.set_cons_succ, iv_set, bv_set, iv_rep, bv_rep]; done) | (simp only [List.nil_append, List.cons_append, List.set_cons_zero, List.set_cons_succ, iv_set, bv_set, iv_rep, bv_rep]; rfl) | rfl)))) | (with_reducible refine AWo.nil ?_) | ((with_reducible apply AW.seq)) | ((with_reducible apply Then.n)) | ((with_reducible apply AW.regL)) | ((with_reducible apply AW.drawL fit); (focus (decide +kernel))) | ((with_reducible apply AW.skip)) | ((with_reducible apply AW.condF); exact rfl; (focus (rfl)))))
  (refine AW.retD (l := [(4, _)]) (by repeat (first | exact trivial | (refine And.intro ⟨rfl, by (exact .int _ _)⟩ ?_))) ?_; (repeat (first | refine Then.r ?_ | refine InBlk.r ?_)))
  exact ⟨_, rfl, rfl, rfl⟩
set_option maxHeartbeats 4000000 in
set_option maxRecDepth 100000 in
theorem rin_ok {m : AM} {r : R4} (h16 : r.x ≤ 48 ∧ r.y ≤ 48 ∧ r.a ≤ 48 ∧ r.b ≤ 48) {x y : Nat} (hx : x ≤ 48) (hy : y ≤ 48) : ACall Tryd.prog 113 #[r.rc.v, .int .i64 (x : Nat), .int .i64 (y : Nat)] m (Ret (.bool (inR r x y)) m) := by
  obtain ⟨rx, ry, ra, rb⟩ := r
  simp only at h16
  change ACall Tryd.prog 113 #[.agg #[.int .i64 (rx : Nat), .int .i64 (ry : Nat), .int .i64 (ra : Nat), .int .i64 (rb : Nat)], _, _] m _
  refine ACall.start Tryd.func113 rfl rfl ?_
  by_cases c1 : rx ≤ x
  · by_cases c2 : x < rx + ra
    · by_cases c3 : ry ≤ y
      · by_cases c4 : y < ry + rb
        · have e : inR ⟨rx, ry, ra, rb⟩ x y = true := decide_eq_true ⟨c1, c2, c3, c4⟩
          rw [e]
          (repeat (first | (with_reducible refine AWo.cons ?_) | ((with_reducible refine Step.id ?_); first | ((with_reducible apply Step.gdT); exact rfl; exact rfl; (focus ((simp only [decide_eq_true_eq, decide_eq_false_iff_not, Bool.not_eq_true', Bool.not_eq_false', Bool.not_true, Bool.not_false]; first | assumption | omega)))) | ((with_reducible apply Step.move); exact rfl; exact rfl) | ((with_reducible apply Step.assign); exact rfl; exact rfl) | ((with_reducible apply Step.load); exact rfl; (focus (decide +kernel)); exact rfl; (focus (exact Rd.new rfl rfl))) | ((with_reducible apply Step.field0); exact rfl; (focus (decide +kernel)); exact rfl) | ((with_reducible apply Step.field (k := 1)); exact rfl; (focus (decide +kernel)); exact rfl) | ((with_reducible apply Step.field (k := 2)); exact rfl; (focus (decide +kernel)); exact rfl) | ((with_reducible apply Step.field (k := 3)); exact rfl; (focus (decide +kernel)); exact rfl) | ((with_reducible apply Step.sub); exact rfl; exact rfl; (focus (omega)); exact rfl) | ((with_reducible apply Step.lss); exact rfl; exact rfl; exact rfl) | ((with_reducible apply Step.geq); exact rfl; exact rfl; exact rfl) | ((with_reducible apply Step.pickT); exact rfl; exact rfl; exact rfl; exact rfl; (focus ((simp only [decide_eq_true_eq, decide_eq_false_iff_not, Bool.not_eq_true', Bool.not_eq_false', Bool.not_true, Bool.not_false]; first | assumption | omega)))) | ((with_reducible apply Step.box 0); exact rfl; exact rfl; (focus (kernel_rfl)); exact rfl; (focus (first | (simp only [List.nil_append, List.cons_append, List.set_cons_zero, List.set_cons_succ, iv_set, bv_set, iv_rep, bv_rep]; done) | (simp only [List.nil_append, List.cons_append, List.set_cons_zero, List.set_cons_succ, iv_set, bv_set, iv_rep, bv_rep]; rfl) | rfl)))) | (with_reducible refine AWo.nil ?_) | ((with_reducible apply AW.seq)) | ((with_reducible apply Then.n)) | ((with_reducible apply AW.regL))))
          (refine AW.retD (l := [(6, _)]) (by repeat (first | exact trivial | (refine And.intro ⟨rfl, by (exact .bool _)⟩ ?_))) ?_; (repeat (first | refine Then.r ?_ | refine InBlk.r ?_)))
          exact ⟨_, rfl, by congr 1; rw [eq_comm, decide_eq_true_eq]; omega, rfl⟩
        · have e : inR ⟨rx, ry, ra, rb⟩ x y = false := decide_eq_false (by simp only; omega)
          rw [e]
          (repeat (first | (with_reducible refine AWo.cons ?_) | ((with_reducible refine Step.id ?_); first | ((with_reducible apply Step.gdT); exact rfl; exact rfl; (focus ((simp only [decide_eq_true_eq, decide_eq_false_iff_not, Bool.not_eq_true', Bool.not_eq_false', Bool.not_true, Bool.not_false]; first | assumption | omega)))) | ((with_reducible apply Step.move); exact rfl; exact rfl) | ((with_reducible apply Step.assign); exact rfl; exact rfl) | ((with_reducible apply Step.load); exact rfl; (focus (decide +kernel)); exact rfl; (focus (exact Rd.new rfl rfl))) | ((with_reducible apply Step.field0); exact rfl; (focus (decide +kernel)); exact rfl) | ((with_reducible apply Step.field (k := 1)); exact rfl; (focus (decide +kernel)); exact rfl) | ((with_reducible apply Step.field (k := 2)); exact rfl; (focus (decide +kernel)); exact rfl) | ((with_reducible apply Step.field (k := 3)); exact rfl; (focus (decide +kernel)); exact rfl) | ((with_reducible apply Step.sub); exact rfl; exact rfl; (focus (omega)); exact rfl) | ((with_reducible apply Step.lss); exact rfl; exact rfl; exact rfl) | ((with_reducible apply Step.geq); exact rfl; exact rfl; exact rfl) | ((with_reducible apply Step.pickT); exact rfl; exact rfl; exact rfl; exact rfl; (focus ((simp only [decide_eq_true_eq, decide_eq_false_iff_not, Bool.not_eq_true', Bool.not_eq_false', Bool.not_true, Bool.not_false]; first | assumption | omega)))) | ((with_reducible apply Step.box 0); exact rfl; exact rfl; (focus (kernel_rfl)); exact rfl; (focus (first | (simp only [List.nil_append, List.cons_append, List.set_cons_zero, List.set_cons_succ, iv_set, bv_set, iv_rep, bv_rep]; done) | (simp only [List.nil_append, List.cons_append, List.set_cons_zero, List.set_cons_succ, iv_set, bv_set, iv_rep, bv_rep]; rfl) | rfl)))) | (with_reducible refine AWo.nil ?_) | ((with_reducible apply AW.seq)) | ((with_reducible apply Then.n)) | ((with_reducible apply AW.regL))))
          (refine AW.retD (l := [(6, _)]) (by repeat (first | exact trivial | (refine And.intro ⟨rfl, by (exact .bool _)⟩ ?_))) ?_; (repeat (first | refine Then.r ?_ | refine InBlk.r ?_)))
          exact ⟨_, rfl, by congr 1; rw [eq_comm, decide_eq_false_iff_not]; omega, rfl⟩
      · have e : inR ⟨rx, ry, ra, rb⟩ x y = false := decide_eq_false (by simp only; omega)
        rw [e]
        (repeat (first | (with_reducible refine AWo.cons ?_) | ((with_reducible refine Step.id ?_); first | ((with_reducible apply Step.gdT); exact rfl; exact rfl; (focus ((simp only [decide_eq_true_eq, decide_eq_false_iff_not, Bool.not_eq_true', Bool.not_eq_false', Bool.not_true, Bool.not_false]; first | assumption | omega)))) | ((with_reducible apply Step.gdF); exact rfl; exact rfl; (focus ((simp only [decide_eq_true_eq, decide_eq_false_iff_not, Bool.not_eq_true', Bool.not_eq_false', Bool.not_true, Bool.not_false]; first | assumption | omega)))) | ((with_reducible apply Step.move); exact rfl; exact rfl) | ((with_reducible apply Step.assign); exact rfl; exact rfl) | ((with_reducible apply Step.load); exact rfl; (focus (decide +kernel)); exact rfl; (focus (exact Rd.new rfl rfl))) | ((with_reducible apply Step.field0); exact rfl; (focus (decide +kernel)); exact rfl) | ((with_reducible apply Step.field (k := 1)); exact rfl; (focus (decide +kernel)); exact rfl) | ((with_reducible apply Step.field (k := 2)); exact rfl; (focus (decide +kernel)); exact rfl) | ((with_reducible apply Step.sub); exact rfl; exact rfl; (focus (omega)); exact rfl) | ((with_reducible apply Step.lss); exact rfl; exact rfl; exact rfl) | ((with_reducible apply Step.geq); exact rfl; exact rfl; exact rfl) | ((with_reducible apply Step.pickT); exact rfl; exact rfl; exact rfl; exact rfl; (focus ((simp only [decide_eq_true_eq, decide_eq_false_iff_not, Bool.not_eq_true', Bool.not_eq_false', Bool.not_true, Bool.not_false]; first | assumption | omega)))) | ((with_reducible apply Step.pickF); exact rfl; exact rfl; exact rfl; exact rfl; (focus ((simp only [decide_eq_true_eq, decide_eq_false_iff_not, Bool.not_eq_true', Bool.not_eq_false', Bool.not_true, Bool.not_false]; first | assumption | omega)))) | ((with_reducible apply Step.box 0); exact rfl; exact rfl; (focus (kernel_rfl)); exact rfl; (focus (first | (simp only [List.nil_append, List.cons_append, List.set_cons_zero, List.set_cons_succ, iv_set, bv_set, iv_rep, bv_rep]; done) | (simp only [List.nil_append, List.cons_append, List.set_cons_zero, List.set_cons_succ, iv_set, bv_set, iv_rep, bv_rep]; rfl) | rfl)))) | (with_reducible refine AWo.nil ?_) | ((with_reducible apply AW.seq)) | ((with_reducible apply Then.n)) | ((with_reducible apply AW.regL))))
        (refine AW.retD (l := [(6, _)]) (by repeat (first | exact trivial | (refine And.intro ⟨rfl, by (exact .bool _)⟩ ?_))) ?_; (repeat (first | refine Then.r ?_ | refine InBlk.r ?_)))
        exact ⟨_, rfl, rfl, rfl⟩
    · have e : inR ⟨rx, ry, ra, rb⟩ x y = false := decide_eq_false (by simp only; omega)
      rw [e]
      (repeat (first | (with_reducible refine AWo.cons ?_) | ((with_reducible refine Step.id ?_); first | ((with_reducible apply Step.gdT); exact rfl; exact rfl; (focus ((simp only [decide_eq_true_eq, decide_eq_false_iff_not, Bool.not_eq_true', Bool.not_eq_false', Bool.not_true, Bool.not_false]; first | assumption | omega)))) | ((with_reducible apply Step.gdF); exact rfl; exact rfl; (focus (first | rfl | (simp only [decide_eq_true_eq, decide_eq_false_iff_not, Bool.not_eq_true', Bool.not_eq_false', Bool.not_true, Bool.not_false]; first | assumption | omega)))) | ((with_reducible apply Step.move); exact rfl; exact rfl) | ((with_reducible apply Step.assign); exact rfl; exact rfl) | ((with_reducible apply Step.load); exact rfl; (focus (decide +kernel)); exact rfl; (focus (exact Rd.new rfl rfl))) | ((with_reducible apply Step.field0); exact rfl; (focus (decide +kernel)); exact rfl) | ((with_reducible apply Step.field (k := 2)); exact rfl; (focus (decide +kernel)); exact rfl) | ((with_reducible apply Step.sub); exact rfl; exact rfl; (focus (omega)); exact rfl) | ((with_reducible apply Step.lss); exact rfl; exact rfl; exact rfl) | ((with_reducible apply Step.geq); exact rfl; exact rfl; exact rfl) | ((with_reducible apply Step.pickT); exact rfl; exact rfl; exact rfl; exact rfl; (focus ((simp only [decide_eq_true_eq, decide_eq_false_iff_not, Bool.not_eq_true', Bool.not_eq_false', Bool.not_true, Bool.not_false]; first | assumption | omega)))) | ((with_reducible apply Step.pickF); exact rfl; exact rfl; exact rfl; exact rfl; (focus (first | rfl | (simp only [decide_eq_true_eq, decide_eq_false_iff_not, Bool.not_eq_true', Bool.not_eq_false', Bool.not_true, Bool.not_false]; first | assumption | omega)))) | ((with_reducible apply Step.box 0); exact rfl; exact rfl; (focus (kernel_rfl)); exact rfl; (focus (first | (simp only [List.nil_append, List.cons_append, List.set_cons_zero, List.set_cons_succ, iv_set, bv_set, iv_rep, bv_rep]; done) | (simp only [List.nil_append, List.cons_append, List.set_cons_zero, List.set_cons_succ, iv_set, bv_set, iv_rep, bv_rep]; rfl) | rfl)))) | (with_reducible refine AWo.nil ?_) | ((with_reducible apply AW.seq)) | ((with_reducible apply Then.n)) | ((with_reducible apply AW.regL))))
      (refine AW.retD (l := [(6, _)]) (by repeat (first | exact trivial | (refine And.intro ⟨rfl, by (exact .bool _)⟩ ?_))) ?_; (repeat (first | refine Then.r ?_ | refine InBlk.r ?_)))
      exact ⟨_, rfl, rfl, rfl⟩
  · have e : inR ⟨rx, ry, ra, rb⟩ x y = false := decide_eq_false (by simp only; omega)
    rw [e]
    (repeat (first | (with_reducible refine AWo.cons ?_) | ((with_reducible refine Step.id ?_); first | ((with_reducible apply Step.gdF); exact rfl; exact rfl; (focus (first | rfl | (simp only [decide_eq_true_eq, decide_eq_false_iff_not, Bool.not_eq_true', Bool.not_eq_false', Bool.not_true, Bool.not_false]; first | assumption | omega)))) | ((with_reducible apply Step.move); exact rfl; exact rfl) | ((with_reducible apply Step.assign); exact rfl; exact rfl) | ((with_reducible apply Step.load); exact rfl; (focus (decide +kernel)); exact rfl; (focus (exact Rd.new rfl rfl))) | ((with_reducible apply Step.field0); exact rfl; (focus (decide +kernel)); exact rfl) | ((with_reducible apply Step.geq); exact rfl; exact rfl; exact rfl) | ((with_reducible apply Step.pickF); exact rfl; exact rfl; exact rfl; exact rfl; (focus (first | rfl | (simp only [decide_eq_true_eq, decide_eq_false_iff_not, Bool.not_eq_true', Bool.not_eq_false', Bool.not_true, Bool.not_false]; first | assumption | omega)))) | ((with_reducible apply Step.box 0); exact rfl; exact rfl; (focus (kernel_rfl)); exact rfl; (focus (first | (simp only [List.nil_append, List.cons_append, List.set_cons_zero, List.set_cons_succ, iv_set, bv_set, iv_rep, bv_rep]; done) | (simp only [List.nil_append, List.cons_append, List.set_cons_zero, List.set_cons_succ, iv_set, bv_set, iv_rep, bv_rep]; rfl) | rfl)))) | (with_reducible refine AWo.nil ?_) | ((with_reducible apply AW.seq)) | ((with_reducible apply Then.n)) | ((with_reducible apply AW.regL))))
    (refine AW.retD (l := [(6, _)]) (by repeat (first | exact trivial | (refine And.intro ⟨rfl, by (exact .bool _)⟩ ?_))) ?_; (repeat (first | refine Then.r ?_ | refine InBlk.r ?_)))
    exact ⟨_, rfl, rfl, rfl⟩
/-- The cells of a board as numbers, row by row. -/
def celI (B : Brd) (r : R4) (y x : Nat) : Int := if inR r x y then 0 else gr B x y
def celK (B : Brd) (r : R4) (n : Nat) : List Int := (List.range n).map fun i => celI B r (i / bw B) (i % bw B)
theorem celK_len (B : Brd) (r : R4) (n : Nat) : (celK B r n).length = n := by simp [celK]
theorem celK_succ (B : Brd) (r : R4) (n : Nat) : celK B r (n + 1) = celK B r n ++ [celI B r (n / bw B) (n % bw B)] := by simp [celK, List.range_succ]
theorem celK_at {B : Brd} {r : R4} {y x : Nat} (hx : x < bw B) : celK B r (y * bw B + x + 1) = celK B r (y * bw B + x) ++ [celI B r y x] := by
  rw [celK_succ, Nat.mul_comm, Nat.mul_add_div (by omega), Nat.mul_add_mod, Nat.div_eq_of_lt hx, Nat.mod_eq_of_lt hx, Nat.add_zero]
theorem celK_get {B : Brd} {r : R4} {n y x : Nat} (hx : x < bw B) (hn : y * bw B + x < n) : (celK B r n).getD (y * bw B + x) 0 = celI B r y x := by
  rw [getD_in _ _ (by rw [celK_len]; exact hn)]
  simp only [celK, List.getElem_map, List.getElem_range]
  rw [Nat.mul_comm, Nat.mul_add_div (by omega), Nat.mul_add_mod, Nat.div_eq_of_lt hx, Nat.mod_eq_of_lt hx, Nat.add_zero]
theorem celI_in {B : Brd} {r : R4} (hv : skinB B = true) {y x : Nat} (hy : y < bh B) (hx : x < bw B) : 0 ≤ celI B r y x ∧ celI B r y x ≤ 9 ∧ 48 + celI B r y x = ((pxl B r y x).toNat : Int) := by
  have := (skinRow hv hy).2 x hx
  unfold celI pxl gr
  cases inR r x y with
  | true => simp
  | false =>
    simp only [Bool.false_eq_true, if_false]
    have e : ((byte8 (rowOf B y) x).toNat : Int) = byteAt (rowOf B y) x := rfl
    omega
theorem ints_gv2 {m L : AM} {k : Nat} {l : List Int} (h : L[k]? = some (gb (iv l) 1)) : Ints (m ++ L) (gv (m.length + k) l.length) l := by
  have hk : k < L.length := (List.getElem?_eq_some_iff.1 h).1
  cases l with
  | nil => exact ⟨m.length + k, 0, .inl ⟨rfl, rfl⟩, by rw [List.length_append]; omega, fun k hk => by simp at hk⟩
  | cons x l =>
    rw [gv_pos (by simp)]
    rw [gb_pos (by rw [iv_len]; simp)] at h
    exact ints_new h rfl _ rfl
theorem iv_app1 (l : List Int) (x : Int) : iv (l ++ [x]) = iv l ++ [.int .i64 x] := by simp [iv]
theorem g0_app {a b : List Value} (ha : ∀ v ∈ a, g0 v = true) (hb : ∀ v ∈ b, g0 v = true) : ∀ v ∈ a ++ b, g0 v = true := by
  intro v hv
  rcases List.mem_append.1 hv with h | h
  · exact ha v h
  · exact hb v h
theorem bs47 {m : AM} {k : Nat} {x : Int} : abuildSlice Tryd.prog m k 47 1 [(0, .int .i64 x)] = some (.slice (some ⟨k, 0, none⟩) 1 1, m.set k (some { cells := [.int .i64 x] })) := by kernel_rfl
theorem bs30w {m : AM} {k : Nat} {x : ByteArray} : abuildSlice Tryd.prog m k 30 1 [(0, .string x)] = some (.slice (some ⟨k, 0, none⟩) 1 1, m.set k (some { cells := [.string x] })) := by kernel_rfl
theorem un47 : Tryd.prog.underlying 47 = some (.slice 3) := by kernel_rfl
/-- An int made a byte. -/
theorem Step.iU8 {P : Program} {nt : Nat} {ops : Array Oper} {t : Fm} {m : AM} {K : Fm → AM → Prop} {d T : Nat} {p : String} {af : Array Edge} {x : Operand} {S D : TypeId} {a : Int} (hx : evo t x = some (.int .i64 a)) (hS : P.underlying S = some (.int .i64)) (hD : P.underlying D = some (.int .u8)) (hr : 0 ≤ a ∧ a ≤ 255) (hlt : Nat.blt d nt = true) (hK : K (put t d (.int .u8 a)) m) :
    Step P nt ops ⟨some d, .convert S D x, T, p, af, none⟩ t m K := by
  refine .ground rfl rfl hlt (by simp [Op.operands, hx, g1, g0]) (fun h => by simpa [aquiet] using h) ?_ (by simp [g1, g0]) hK
  have hw : IntKind.u8.wrap a = a := u8_in hr
  simp only [execOp, evD_of hx, bind]
  rw [still_bind]
  unfold convert
  simp only [bind]
  rw [still_bind, still_und hS]
  simp only
  rw [still_bind, still_und hD]
  simp [Conv.intToInt, hw, pure, Sim.still]
/-- The first k rows of a picture, in a row that grows. -/
def picG (F : Nat → Nat → UInt8) (w k : Nat) : List Value := (List.range k).map fun y => .string ⟨(rowF F w y).toArray⟩
theorem picG_succ (F : Nat → Nat → UInt8) (w k : Nat) : picG F w (k + 1) = picG F w k ++ [.string ⟨(rowF F w k).toArray⟩] := by simp [picG, List.range_succ]
theorem picG_len (F : Nat → Nat → UInt8) (w k : Nat) : (picG F w k).length = k := by simp [picG]
theorem picG_full (F : Nat → Nat → UInt8) (w h : Nat) : picG F w h = picK F w h h := by
  apply List.ext_getElem
  · simp [picG, picK]
  · intro i h1 h2
    simp only [picG, List.length_map, List.length_range] at h1
    simp [picG, picK, h1]
theorem g0_picG (F : Nat → Nat → UInt8) (w k : Nat) : ∀ v ∈ picG F w k, g0 v = true := by
  intro v hv
  simp only [picG, List.mem_map] at hv
  obtain ⟨y, _, rfl⟩ := hv
  rfl
set_option maxHeartbeats 8000000 in
set_option maxRecDepth 100000 in
theorem drawn_ok {m : AM} {cv : Value} {B : Brd} {r : R4} (hv : skinB B = true) (hc : Ints m cv (celK B r (bh B * bw B))) :
    ACall Tryd.prog 114 #[.int .i64 (bw B : Nat), .int .i64 (bh B : Nat), cv] m (NewG (picG (pxl B r) (bw B) (bh B)) 1 (bh B) m) := by
  have hin := skin_in hv
  obtain ⟨a, o, sl, la, rd⟩ := hc
  rw [celK_len] at sl rd
  obtain ⟨q, c, rfl⟩ := sl.shape
  have wl : Low m.length (.slice q (bh B * bw B) c) := Low.of_sl sl la
  have hrd : ∀ y x, y < bh B → x < bw B → y * bw B + x < bh B * bw B ∧ Rd m a (o + (y * bw B + x)) (.int .i64 (celI B r y x)) := fun y x hy hx => by
    have h1 : (y + 1) * bw B ≤ bh B * bw B := Nat.mul_le_mul_right _ hy
    rw [Nat.add_mul, Nat.one_mul] at h1
    have h2 : y * bw B + x < bh B * bw B := by omega
    refine ⟨h2, ?_⟩
    have := rd _ h2
    rwa [celK_get hx h2] at this
  have hci := fun y x (hy : y < bh B) (hx : x < bw B) => celI_in (r := r) hv hy hx
  have hbig : bh B * bw B ≤ 48 * 48 := Nat.mul_le_mul hin.1.2 hin.2.2
  have hrow : ∀ y, y < bh B → y * bw B ≤ 48 * 48 := fun y hy => Nat.mul_le_mul (by omega) hin.2.2
  generalize pxl B r = F at *
  generalize celI B r = G at *
  generalize bw B = w at *
  generalize bh B = h at *
  refine ACall.start Tryd.func114 rfl rfl ?_
  (repeat (first | (with_reducible refine AWo.cons ?_) | ((with_reducible refine Step.id ?_); first | ((with_reducible apply Step.move); exact rfl; exact rfl) | ((with_reducible apply Step.assign); exact rfl; exact rfl)) | (with_reducible refine AWo.nil ?_) | ((with_reducible apply AW.seq)) | ((with_reducible apply Then.n)) | ((with_reducible apply AW.regL)) | ((with_reducible apply AW.block))))
  refine AW.loopT (fun n t L => ∃ y : Nat, n = h - y ∧ y ≤ h ∧ L = [gb (picG F w y) 1] ∧
    t = [(0, .int .i64 (w : Nat)), (2, .slice q (h * w) c), (7, gv (m.length + 0) y), (11, .int .i64 (h : Nat)), (12, .int .i64 (y : Nat))])
    ⟨_, _, [none], (Back.padC rfl (by repeat (first | exact trivial | (refine And.intro ⟨rfl, by (first | exact Low.rid (by assumption) (by simp) | exact .int _ _ | exact Ren.of_gv (by first | (simp; done) | omega | (simp; omega)))⟩ ?_))) (by repeat (exact CellsP.nil))), 0, rfl, Nat.zero_le _, rfl, rfl⟩ ?_
  rintro n t L ⟨y, rfl, hy, rfl, rfl⟩
  rcases Nat.lt_or_ge y h with hlt | hge
  · have gp := g0_picG F w y
    (repeat (first | (with_reducible refine AWo.cons ?_) | ((with_reducible refine Step.id ?_); first | ((with_reducible apply Step.move); exact rfl; exact rfl) | ((with_reducible apply Step.assign); exact rfl; exact rfl) | ((with_reducible apply Step.lss); exact rfl; exact rfl; exact rfl) | ((with_reducible apply Step.make1 1); exact rfl; exact rfl; exact rfl; exact el40; (focus (omega)); exact rfl; (focus (first | (simp only [List.nil_append, List.cons_append, List.set_cons_zero, List.set_cons_succ, iv_set, bv_set, iv_rep, bv_rep]; done) | (simp only [List.nil_append, List.cons_append, List.set_cons_zero, List.set_cons_succ, iv_set, bv_set, iv_rep, bv_rep]; rfl) | rfl)))) | (with_reducible refine AWo.nil ?_) | ((with_reducible apply AW.seq)) | ((with_reducible apply Then.n)) | ((with_reducible apply AW.regL)) | ((with_reducible apply AW.block)) | ((with_reducible apply AW.skip)) | ((with_reducible apply AW.condT); exact rfl; (focus ((simp only [decide_eq_true_eq, decide_eq_false_iff_not, Bool.not_eq_true', Bool.not_eq_false', Bool.not_true, Bool.not_false]; first | assumption | omega))))))
    refine AW.loopT (fun n t L => ∃ x : Nat, n = w - x ∧ x ≤ w ∧ L = [gb (picG F w y) 1, some { cells := by8 (rowK F w y x) }] ∧
      t = [(0, .int .i64 (w : Nat)), (2, .slice q (h * w) c), (7, gv (m.length + 0) y), (8, .int .i64 (y : Nat)), (9, .slice (some ⟨m.length + 1, 0, none⟩) w w), (11, .int .i64 (h : Nat)), (12, .int .i64 (y : Nat)), (17, .int .i64 (w : Nat)), (18, .int .i64 (x : Nat))])
      ⟨_, _, _, (Or.inl ⟨rfl, (by repeat (first | exact trivial | (refine And.intro rfl ?_)))⟩), 0, rfl, Nat.zero_le _, by rw [rowK_zero, by8_rep], rfl⟩ ?_
    rintro n t L ⟨x, rfl, hx, rfl, rfl⟩
    rcases Nat.lt_or_ge x w with hxl | hxg
    · obtain ⟨hi, hr⟩ := hrd y x hlt hxl
      obtain ⟨g1, g2, g3⟩ := hci y x hlt hxl
      have hyw := hrow y hlt
      have hst := rowK_set F w y x
      have hl := rowK_len F w y x
      have hl8 := by8_len (rowK F w y x)
      have em : ((y : Int) * (w : Int)) = ((y * w : Nat) : Int) := by simp
      generalize rowK F w y x = rk at *
      (repeat (first | (with_reducible refine AWo.cons ?_) | ((with_reducible refine Step.id ?_); first | ((with_reducible apply Step.move); exact rfl; exact rfl) | ((with_reducible apply Step.assign); exact rfl; exact rfl) | ((with_reducible apply Step.load); exact rfl; (focus (decide +kernel)); exact rfl; (focus (exact Rd.old _ (by assumption)))) | ((with_reducible apply Step.ix1); exact rfl; (focus (assumption)); exact rfl; (focus (decide +kernel)); exact rfl; (focus (omega))) | ((with_reducible apply Step.add); exact rfl; exact rfl; (focus (omega)); exact rfl) | ((with_reducible apply Step.mul); exact rfl; exact rfl; (focus (omega)); exact rfl) | ((with_reducible apply Step.lss); exact rfl; exact rfl; exact rfl)) | (with_reducible refine AWo.nil ?_) | ((with_reducible apply AW.seq)) | ((with_reducible apply Then.n)) | ((with_reducible apply AW.regL)) | ((with_reducible apply AW.block)) | ((with_reducible apply AW.skip)) | ((with_reducible apply AW.condT); exact rfl; (focus ((simp only [decide_eq_true_eq, decide_eq_false_iff_not, Bool.not_eq_true', Bool.not_eq_false', Bool.not_true, Bool.not_false]; first | assumption | omega))))))
      ((with_reducible apply Step.iU8); exact rfl; exact un3; exact un5; (focus (omega)); exact rfl)
      (repeat (first | (with_reducible refine AWo.cons ?_) | ((with_reducible refine Step.id ?_); first | ((with_reducible apply Step.move); exact rfl; exact rfl) | ((with_reducible apply Step.ix1z); exact rfl; (focus (exact Sl.mk (by omega))); exact rfl; (focus (decide +kernel)); exact rfl; (focus (omega))) | ((with_reducible apply Step.add); exact rfl; exact rfl; (focus (omega)); exact rfl) | ((with_reducible apply Step.store (k := 1)); exact rfl; exact rfl; exact rfl; exact rfl; (focus (decide +kernel)); exact rfl; exact rfl; (focus (first | omega | (simp [iv, bv]; done) | (simp [iv, bv]; omega))); (focus (first | (simp only [List.nil_append, List.cons_append, List.set_cons_zero, List.set_cons_succ, iv_set, bv_set, iv_rep, bv_rep]; done) | (simp only [List.nil_append, List.cons_append, List.set_cons_zero, List.set_cons_succ, iv_set, bv_set, iv_rep, bv_rep]; rfl) | rfl)))) | (with_reducible refine AWo.nil ?_) | ((with_reducible apply Then.n)) | ((with_reducible apply AW.regL)) | ((with_reducible apply InBlk.n))))
      exact ⟨_, _, [gb (picG F w y) 1, some { cells := by8 (rowK F w y (x + 1)) }], by omega, (Or.inl ⟨by rw [← hst, ← by8_set, ← g3], (by repeat (first | exact trivial | (refine And.intro rfl ?_)))⟩), x + 1, rfl, by omega, rfl, rfl⟩
    · obtain rfl : x = w := by omega
      have hr8 : ∀ T, RdL (m ++ ([gb (picG F x y) 1, some { cells := by8 (rowK F x y x) }] ++ T)) (m.length + 1) 0 (by8 (rowF F x y)) := fun T => by rw [← rowK_full]; exact RdL.new rfl rfl
      have hrl : (rowF F x y).length = x := by simp [rowF]
      have hpl := picG_len F x y
      have hst := picG_succ F x y
      have g0n := g0_picG F x (y + 1)
      rw [hst] at g0n
      (repeat (first | (with_reducible refine AWo.cons ?_) | ((with_reducible refine Step.id ?_); first | ((with_reducible apply Step.move); exact rfl; exact rfl) | ((with_reducible apply Step.lss); exact rfl; exact rfl; exact rfl)) | (with_reducible refine AWo.nil ?_) | ((with_reducible apply AW.seq)) | ((with_reducible apply Then.n)) | ((with_reducible apply AW.regL)) | ((with_reducible apply AW.exit)) | ((with_reducible apply InBlk.hit)) | ((with_reducible apply Then.e)) | ((with_reducible apply AW.condF); exact rfl; (focus ((simp only [decide_eq_true_eq, decide_eq_false_iff_not, Bool.not_eq_true', Bool.not_eq_false', Bool.not_true, Bool.not_false]; first | assumption | omega))))))
      ((with_reducible apply Step.toStr (l := rowF F x y)); exact rfl; exact (Sl.mk (Nat.le_refl _)); exact hrl; (focus (simpa using hr8 [])); exact un40; exact un5; exact un9; exact rfl)
      (repeat (first | (with_reducible refine AWo.cons ?_) | ((with_reducible refine Step.id ?_); ((with_reducible apply Step.buildS 2); exact rfl; exact rfl; exact (fun _ _ => bs30w); exact rfl; (focus (first | (simp only [List.nil_append, List.cons_append, List.set_cons_zero, List.set_cons_succ, iv_set, bv_set, iv_rep, bv_rep]; done) | (simp only [List.nil_append, List.cons_append, List.set_cons_zero, List.set_cons_succ, iv_set, bv_set, iv_rep, bv_rep]; rfl) | rfl))))))
      ((with_reducible apply Step.appG (k := 3) (q := 0) (r := 2) (n := y) (xl := 1)); exact rfl; exact rfl; exact rfl; exact el30; exact un30; exact rfl; exact rfl; exact rfl; (focus (omega)); exact rfl; exact rfl; exact rfl; (focus (omega)); exact rfl; (focus (first | (simp only [List.nil_append, List.cons_append, List.set_cons_zero, List.set_cons_succ, iv_set, bv_set, iv_rep, bv_rep]; done) | (simp only [List.nil_append, List.cons_append, List.set_cons_zero, List.set_cons_succ, iv_set, bv_set, iv_rep, bv_rep]; rfl) | rfl)))
      (repeat (first | (with_reducible refine AWo.cons ?_) | ((with_reducible refine Step.id ?_); first | ((with_reducible apply Step.move); exact rfl; exact rfl) | ((with_reducible apply Step.assign); exact rfl; exact rfl) | ((with_reducible apply Step.add); exact rfl; exact rfl; (focus (omega)); exact rfl)) | (with_reducible refine AWo.nil ?_) | ((with_reducible apply Then.n)) | ((with_reducible apply AW.regL)) | ((with_reducible apply InBlk.n))))
      exact ⟨_, [(0, .int .i64 (x : Nat)), (2, .slice q (h * x) c), (7, .slice (some ⟨m.length + 0, 0, none⟩) (y + 1) (y + 1)), (11, .int .i64 (h : Nat)), (12, .int .i64 (y + 1 : Nat))], [some { cells := picG F x y ++ [.string ⟨(rowF F x y).toArray⟩], kind := .grow, size := 1 }], by omega, (Back.mv 0 3 rfl rfl rfl rfl (by intro j b hj h; rcases j with _ | _ | _ | _ | _ | _ | j <;> simp_all) (by repeat (first | exact CellsOk.nil | refine CellsOk.cons (by assumption) ?_)) (by repeat (first | exact trivial | (refine And.intro ⟨_, rfl, by (first | exact Low.ne (by assumption) (by simp) | exact .int _ _ | exact Ren.slice_mv (by first | (simp; done) | omega | (simp; omega)))⟩ ?_)))), y + 1, rfl, by omega, by rw [hst, gb_pos (by simp)], by rw [gv_pos (by omega)]⟩
  · obtain rfl : y = h := by omega
    have gp := g0_picG F w y
    (repeat (first | (with_reducible refine AWo.cons ?_) | ((with_reducible refine Step.id ?_); first | ((with_reducible apply Step.move); exact rfl; exact rfl) | ((with_reducible apply Step.assign); exact rfl; exact rfl) | ((with_reducible apply Step.lss); exact rfl; exact rfl; exact rfl)) | (with_reducible refine AWo.nil ?_) | ((with_reducible apply AW.seq)) | ((with_reducible apply Then.n)) | ((with_reducible apply AW.regL)) | ((with_reducible apply AW.exit)) | ((with_reducible apply InBlk.hit)) | ((with_reducible apply Then.e)) | ((with_reducible apply AW.condF); exact rfl; (focus ((simp only [decide_eq_true_eq, decide_eq_false_iff_not, Bool.not_eq_true', Bool.not_eq_false', Bool.not_true, Bool.not_false]; first | assumption | omega))))))
    (refine AW.retB (l := [(6, _)]) (Or.inl ⟨rfl, (by repeat (first | exact trivial | (refine And.intro rfl ?_)))⟩) ?_; (repeat (first | refine Then.r ?_ | refine InBlk.r ?_)))
    exact ⟨_, rfl, rfl, rfl⟩
set_option maxHeartbeats 8000000 in
set_option maxRecDepth 100000 in
theorem RPunch_ok {m : AM} {sv : Value} {B : Brd} {r : R4} (hs : Strs m sv B) (hv : skinB B = true) (hr : r.ok (bw B) (bh B)) : ACall Tryd.prog 92 #[sv, r.rc.v] m (More (fun M w => ∃ u, w = .tuple #[u, .int .i64 0] ∧ Strs M u (punch B r)) m) := by
  have hin := skin_in hv
  have hC := fun T => checked_ok (hs.old T) hv hr
  have h16 : r.x ≤ 48 ∧ r.y ≤ 48 ∧ r.a ≤ 48 ∧ r.b ≤ 48 := by unfold R4.ok at hr; omega
  have hI := fun M x y (hx : x ≤ 48) (hy : y ≤ 48) => rin_ok (m := M) h16 hx hy
  have hGr := fun T x y (hy : y < bh B) (hx : x < bw B) => RGrade_ok (hs.old T) hv hy hx
  have hD := fun (M : AM) (cv : Value) (hc : Ints M cv (celK B r (bh B * bw B))) => drawn_ok hv hc
  obtain ⟨A, O, sl, la, rd⟩ := id hs
  have r0 := rd 0 hin.1.1
  have hl0 : 0 < B.length := hin.1.1
  have hrl : ∀ y, y < B.length → (rowOf B 0).size = bw B := fun y hy => rfl
  obtain ⟨q, c, rfl⟩ := sl.shape
  have wl : Low m.length (.slice q B.length c) := Low.of_sl sl la
  have hcs := fun y x (hx : x < bw B) => celK_at (B := B) (r := r) (y := y) hx
  have hin2 : ∀ y x, inR r x y = true → celI B r y x = 0 := fun y x h => by unfold celI; rw [if_pos h]
  have hin3 : ∀ y x, inR r x y = false → celI B r y x = gr B x y := fun y x h => by unfold celI; rw [if_neg (by simp [h])]
  have hlen := celK_len B r
  have hbig : ∀ y x, y < bh B → x ≤ bw B → y * bw B + x ≤ 48 * 48 + 48 := fun y x hy hx => Nat.add_le_add (Nat.mul_le_mul (by omega) hin.2.2) (by omega)
  change ∀ T, ACall Tryd.prog 112 #[_, .agg r.rc.cells.toArray] _ _ at hC
  change ∀ M x y, _ → _ → ACall Tryd.prog 113 #[.agg r.rc.cells.toArray, _, _] _ _ at hI
  change ACall Tryd.prog 92 #[_, .agg r.rc.cells.toArray] m _
  refine ACall.start Tryd.func92 rfl rfl ?_
  have grc : ∀ v ∈ r.rc.cells, g0 v = true := fun v hv => by
    simp only [Rc.cells, List.mem_cons, List.not_mem_nil, or_false] at hv
    rcases hv with rfl | rfl | rfl | rfl <;> rfl
  have hbl : bh B = B.length := rfl
  (repeat (first | (with_reducible refine AWo.cons ?_) | ((with_reducible refine Step.id ?_); first | ((with_reducible apply Step.move); exact rfl; exact rfl) | ((with_reducible apply Step.assign); exact rfl; exact rfl) | ((with_reducible apply Step.loadL (n := 4)); exact rfl; (focus (decide +kernel)); (focus (decide +kernel)); exact rfl; (focus (exact RdL.new rfl rfl)); exact rfl; exact rfl) | ((with_reducible apply Step.neq); exact rfl; exact rfl; exact rfl) | ((with_reducible apply Step.len); exact rfl; (focus (assumption)); (focus (decide +kernel)); exact rfl) | ((with_reducible apply Step.callR fit); exact rfl; exact Tryd.func112; exact rfl; exact rfl; exact (hC _)) | ((with_reducible apply Step.box 0); exact rfl; exact rfl; (focus (kernel_rfl)); exact rfl; (focus (first | (simp only [List.nil_append, List.cons_append, List.set_cons_zero, List.set_cons_succ, iv_set, bv_set, iv_rep, bv_rep]; done) | (simp only [List.nil_append, List.cons_append, List.set_cons_zero, List.set_cons_succ, iv_set, bv_set, iv_rep, bv_rep]; rfl) | rfl)))) | (with_reducible refine AWo.nil ?_) | ((with_reducible apply AW.seq)) | ((with_reducible apply Then.n)) | ((with_reducible apply AW.regL)) | ((with_reducible apply AW.block)) | ((with_reducible apply AW.skip)) | ((with_reducible apply AW.condF); exact rfl; (focus (rfl)))))
  refine AW.loopT (fun n t L => ∃ y : Nat, n = bh B - y ∧ y ≤ bh B ∧ L = [some { cells := r.rc.cells }, gb (iv (celK B r (y * bw B))) 1] ∧
    t = [(0, .slice q B.length c), (3, .pointer (some ⟨m.length + 0, 0, none⟩)), (7, gv (m.length + 1) (y * bw B)), (17, .int .i64 (B.length : Nat)), (18, .int .i64 (y : Nat))])
    ⟨_, [(0, .slice q B.length c), (3, .pointer (some ⟨m.length + 0, 0, none⟩)), (7, .slice none 0 0), (17, .int .i64 (B.length : Nat)), (18, .int .i64 0)], [some { cells := r.rc.cells }, none], (Back.padC rfl (by repeat (first | exact trivial | (refine And.intro ⟨rfl, by (first | exact Low.rid (by assumption) (by simp) | exact .int _ _ | exact Ren.of_g0 rfl | exact .ptr _ _ (by first | (simp; done) | omega | (simp; omega)))⟩ ?_))) (by repeat (first | exact CellsP.nil | (refine CellsP.cons ?_ ?_; (focus (exact cells_g0 (by assumption))))))), 0, rfl, Nat.zero_le _, by rw [Nat.zero_mul]; rfl, by rw [Nat.zero_mul]; rfl⟩ ?_
  rintro n t L ⟨y, rfl, hy, rfl, rfl⟩
  rcases Nat.lt_or_ge y (bh B) with hlt | hge
  · have hyl : y < B.length := hlt
    (repeat (first | (with_reducible refine AWo.cons ?_) | ((with_reducible refine Step.id ?_); first | ((with_reducible apply Step.move); exact rfl; exact rfl) | ((with_reducible apply Step.assign); exact rfl; exact rfl) | ((with_reducible apply Step.load); exact rfl; (focus (decide +kernel)); exact rfl; (focus (exact Rd.old _ (by assumption)))) | ((with_reducible apply Step.ix1); exact rfl; (focus (assumption)); exact rfl; (focus (decide +kernel)); exact rfl; (focus (omega))) | ((with_reducible apply Step.lenS); exact rfl; exact un9; exact rfl) | ((with_reducible apply Step.lss); exact rfl; exact rfl; exact rfl)) | (with_reducible refine AWo.nil ?_) | ((with_reducible apply AW.seq)) | ((with_reducible apply Then.n)) | ((with_reducible apply AW.regL)) | ((with_reducible apply AW.block)) | ((with_reducible apply AW.skip)) | ((with_reducible apply AW.condT); exact rfl; (focus ((simp only [decide_eq_true_eq, decide_eq_false_iff_not, Bool.not_eq_true', Bool.not_eq_false', Bool.not_true, Bool.not_false]; first | assumption | omega))))))
    refine AW.loopT (fun n t L => ∃ x : Nat, n = bw B - x ∧ x ≤ bw B ∧ L = [some { cells := r.rc.cells }, gb (iv (celK B r (y * bw B + x))) 1] ∧
      t = [(0, .slice q B.length c), (3, .pointer (some ⟨m.length + 0, 0, none⟩)), (7, gv (m.length + 1) (y * bw B + x)), (8, .int .i64 (y : Nat)), (17, .int .i64 (B.length : Nat)), (18, .int .i64 (y : Nat)), (24, .int .i64 ((rowOf B 0).size : Nat)), (25, .int .i64 (x : Nat))])
      ⟨_, [(0, .slice q B.length c), (3, .pointer (some ⟨m.length + 0, 0, none⟩)), (7, gv (m.length + 1) (y * bw B)), (8, .int .i64 (y : Nat)), (17, .int .i64 (B.length : Nat)), (18, .int .i64 (y : Nat)), (24, .int .i64 ((rowOf B 0).size : Nat)), (25, .int .i64 0)], [some { cells := r.rc.cells }, gb (iv (celK B r (y * bw B))) 1], (Or.inl ⟨rfl, (by repeat (first | exact trivial | (refine And.intro rfl ?_)))⟩), 0, rfl, Nat.zero_le _, by rw [Nat.add_zero], by rw [Nat.add_zero]; rfl⟩ ?_
    rintro n t L ⟨x, rfl, hx, rfl, rfl⟩
    have hbg := hbig y x hlt hx
    have ebw : bw B = (rowOf B 0).size := rfl
    rcases Nat.lt_or_ge x (bw B) with hxl | hxg
    · have hxl' : x < (rowOf B 0).size := hxl
      have hi := fun M => hI M x y (by omega) (by omega)
      have hgr := fun T => hGr T x y hlt hxl
      have hcl := hlen (y * bw B + x)
      have hcs1 := hcs y x hxl
      have hiv : (iv (celK B r (y * bw B + x))).length = (y * bw B + x) * 1 := by rw [iv_len, hcl]; omega
      have e1 : y * bw B + (x + 1) = y * bw B + x + 1 := by omega
      have rr : ∀ T, RdL (m ++ (some { cells := r.rc.cells } :: T)) (m.length + 0) 0 r.rc.cells := fun T => RdL.new rfl rfl
      cases hin1 : inR r x y with
      | true =>
        rw [hin2 y x hin1] at hcs1
        simp only [hin1] at hi
        generalize hck : celK B r (y * bw B + x) = ck at *
        generalize hN : y * bw B + x = N at *
        (repeat (first | (with_reducible refine AWo.cons ?_) | ((with_reducible refine Step.id ?_); first | ((with_reducible apply Step.move); exact rfl; exact rfl) | ((with_reducible apply Step.assign); exact rfl; exact rfl) | ((with_reducible apply Step.loadL (n := 4)); exact rfl; (focus (decide +kernel)); (focus (decide +kernel)); exact rfl; (focus (exact RdL.new rfl rfl)); exact rfl; exact rfl) | ((with_reducible apply Step.lss); exact rfl; exact rfl; exact rfl) | ((with_reducible apply Step.callR fit); exact rfl; exact Tryd.func113; exact rfl; exact rfl; exact (hi _)) | ((with_reducible apply Step.buildS 2); exact rfl; exact rfl; exact (fun _ _ => bs47); exact rfl; (focus (first | (simp only [List.nil_append, List.cons_append, List.set_cons_zero, List.set_cons_succ, iv_set, bv_set, iv_rep, bv_rep]; done) | (simp only [List.nil_append, List.cons_append, List.set_cons_zero, List.set_cons_succ, iv_set, bv_set, iv_rep, bv_rep]; rfl) | rfl)))) | (with_reducible refine AWo.nil ?_) | ((with_reducible apply AW.seq)) | ((with_reducible apply Then.n)) | ((with_reducible apply AW.regL)) | ((with_reducible apply AW.block)) | ((with_reducible apply AW.skip)) | ((with_reducible apply AW.condT); exact rfl; (focus (first | rfl | (simp only [decide_eq_true_eq, decide_eq_false_iff_not, Bool.not_eq_true', Bool.not_eq_false', Bool.not_true, Bool.not_false]; first | assumption | omega))))))
        ((with_reducible apply Step.appG (k := 3) (q := 1) (r := 2) (n := N) (xl := 1)); exact rfl; exact rfl; exact rfl; exact el47; exact un47; exact rfl; exact rfl; exact rfl; exact hiv; exact rfl; exact rfl; exact rfl; (focus (omega)); exact rfl; (focus (first | (simp only [List.nil_append, List.cons_append, List.set_cons_zero, List.set_cons_succ, iv_set, bv_set, iv_rep, bv_rep]; done) | (simp only [List.nil_append, List.cons_append, List.set_cons_zero, List.set_cons_succ, iv_set, bv_set, iv_rep, bv_rep]; rfl) | rfl)))
        (repeat (first | (with_reducible refine AWo.cons ?_) | ((with_reducible refine Step.id ?_); first | ((with_reducible apply Step.move); exact rfl; exact rfl) | ((with_reducible apply Step.assign); exact rfl; exact rfl) | ((with_reducible apply Step.add); exact rfl; exact rfl; (focus (omega)); exact rfl)) | (with_reducible refine AWo.nil ?_) | ((with_reducible apply Then.n)) | ((with_reducible apply AW.regL)) | ((with_reducible apply InBlk.n))))
        exact ⟨_, [(0, .slice q B.length c), (3, .pointer (some ⟨m.length + 0, 0, none⟩)), (7, .slice (some ⟨m.length + 1, 0, none⟩) (N + 1) (N + 1)), (8, .int .i64 (y : Nat)), (17, .int .i64 (B.length : Nat)), (18, .int .i64 (y : Nat)), (24, .int .i64 ((rowOf B 0).size : Nat)), (25, .int .i64 (x + 1 : Nat))], [some { cells := r.rc.cells }, some { cells := iv ck ++ [.int .i64 0], kind := .grow, size := 1 }], by omega, by have gc : ∀ v ∈ iv ck ++ [.int .i64 0], g0 v = true := (g0_app (g0_iv _) (by simp [g0])); exact (Back.mvC 1 3 rfl rfl rfl rfl (by intro j b hj h; rcases j with _ | _ | _ | _ | _ | _ | _ | _ | j <;> first | exact absurd rfl hj | exact h | (simp at h; done)) (by repeat (first | exact CellsP.nil | (refine CellsP.cons ?_ ?_; (focus (exact cells_g0 (by assumption)))))) (by repeat (first | exact trivial | (refine And.intro ⟨_, rfl, by (first | exact .int _ _ | exact Ren.slice_mv (by first | (simp; done) | omega | (simp; omega)) | exact Ren.of_sl_ne (by assumption) (by first | omega | (simp; omega)) (by first | omega | (simp; omega)) | exact Ren.ptr_ne (by first | (simp; done) | omega | (simp; omega)) (by omega))⟩ ?_)))), x + 1, rfl, by omega, by rw [e1, hcs1, iv_app1, gb_pos (by simp)], by rw [e1, gv_pos (by omega)]⟩
      | false =>
        rw [hin3 y x hin1] at hcs1
        simp only [hin1] at hi
        generalize hck : celK B r (y * bw B + x) = ck at *
        generalize hN : y * bw B + x = N at *
        generalize hgg : gr B x y = gg at *
        (repeat (first | (with_reducible refine AWo.cons ?_) | ((with_reducible refine Step.id ?_); first | ((with_reducible apply Step.move); exact rfl; exact rfl) | ((with_reducible apply Step.assign); exact rfl; exact rfl) | ((with_reducible apply Step.loadL (n := 4)); exact rfl; (focus (decide +kernel)); (focus (decide +kernel)); exact rfl; (focus (exact RdL.new rfl rfl)); exact rfl; exact rfl) | ((with_reducible apply Step.lss); exact rfl; exact rfl; exact rfl) | ((with_reducible apply Step.callR fit); exact rfl; exact Tryd.func113; exact rfl; exact rfl; exact (hi _)) | ((with_reducible apply Step.callR fit); exact rfl; exact Tryd.func93; exact rfl; exact rfl; exact (hgr _)) | ((with_reducible apply Step.buildS 2); exact rfl; exact rfl; exact (fun _ _ => bs47); exact rfl; (focus (first | (simp only [List.nil_append, List.cons_append, List.set_cons_zero, List.set_cons_succ, iv_set, bv_set, iv_rep, bv_rep]; done) | (simp only [List.nil_append, List.cons_append, List.set_cons_zero, List.set_cons_succ, iv_set, bv_set, iv_rep, bv_rep]; rfl) | rfl)))) | (with_reducible refine AWo.nil ?_) | ((with_reducible apply AW.seq)) | ((with_reducible apply Then.n)) | ((with_reducible apply AW.regL)) | ((with_reducible apply AW.block)) | ((with_reducible apply AW.skip)) | ((with_reducible apply AW.condT); exact rfl; (focus ((simp only [decide_eq_true_eq, decide_eq_false_iff_not, Bool.not_eq_true', Bool.not_eq_false', Bool.not_true, Bool.not_false]; first | assumption | omega)))) | ((with_reducible apply AW.condF); exact rfl; (focus (rfl)))))
        ((with_reducible apply Step.appG (k := 3) (q := 1) (r := 2) (n := N) (xl := 1)); exact rfl; exact rfl; exact rfl; exact el47; exact un47; exact rfl; exact rfl; exact rfl; exact hiv; exact rfl; exact rfl; exact rfl; (focus (omega)); exact rfl; (focus (first | (simp only [List.nil_append, List.cons_append, List.set_cons_zero, List.set_cons_succ, iv_set, bv_set, iv_rep, bv_rep]; done) | (simp only [List.nil_append, List.cons_append, List.set_cons_zero, List.set_cons_succ, iv_set, bv_set, iv_rep, bv_rep]; rfl) | rfl)))
        (repeat (first | (with_reducible refine AWo.cons ?_) | ((with_reducible refine Step.id ?_); first | ((with_reducible apply Step.move); exact rfl; exact rfl) | ((with_reducible apply Step.assign); exact rfl; exact rfl) | ((with_reducible apply Step.add); exact rfl; exact rfl; (focus (omega)); exact rfl)) | (with_reducible refine AWo.nil ?_) | ((with_reducible apply Then.n)) | ((with_reducible apply AW.regL)) | ((with_reducible apply InBlk.n))))
        exact ⟨_, [(0, .slice q B.length c), (3, .pointer (some ⟨m.length + 0, 0, none⟩)), (7, .slice (some ⟨m.length + 1, 0, none⟩) (N + 1) (N + 1)), (8, .int .i64 (y : Nat)), (17, .int .i64 (B.length : Nat)), (18, .int .i64 (y : Nat)), (24, .int .i64 ((rowOf B 0).size : Nat)), (25, .int .i64 (x + 1 : Nat))], [some { cells := r.rc.cells }, some { cells := iv ck ++ [.int .i64 gg], kind := .grow, size := 1 }], by omega, by have gc : ∀ v ∈ iv ck ++ [.int .i64 gg], g0 v = true := (g0_app (g0_iv _) (by simp [g0])); exact (Back.mvC 1 3 rfl rfl rfl rfl (by intro j b hj h; rcases j with _ | _ | _ | _ | _ | _ | _ | _ | j <;> first | exact absurd rfl hj | exact h | (simp at h; done)) (by repeat (first | exact CellsP.nil | (refine CellsP.cons ?_ ?_; (focus (exact cells_g0 (by assumption)))))) (by repeat (first | exact trivial | (refine And.intro ⟨_, rfl, by (first | exact .int _ _ | exact Ren.slice_mv (by first | (simp; done) | omega | (simp; omega)) | exact Ren.of_sl_ne (by assumption) (by first | omega | (simp; omega)) (by first | omega | (simp; omega)) | exact Ren.ptr_ne (by first | (simp; done) | omega | (simp; omega)) (by omega))⟩ ?_)))), x + 1, rfl, by omega, by rw [e1, hcs1, iv_app1, gb_pos (by simp)], by rw [e1, gv_pos (by omega)]⟩
    · obtain rfl : x = bw B := by omega
      have e2 : (y + 1) * bw B = y * bw B + bw B := Nat.succ_mul _ _
      (repeat (first | (with_reducible refine AWo.cons ?_) | ((with_reducible refine Step.id ?_); first | ((with_reducible apply Step.move); exact rfl; exact rfl) | ((with_reducible apply Step.add); exact rfl; exact rfl; (focus (omega)); exact rfl) | ((with_reducible apply Step.lss); exact rfl; exact rfl; exact rfl)) | (with_reducible refine AWo.nil ?_) | ((with_reducible apply AW.seq)) | ((with_reducible apply Then.n)) | ((with_reducible apply AW.regL)) | ((with_reducible apply AW.exit)) | ((with_reducible apply InBlk.n)) | ((with_reducible apply InBlk.hit)) | ((with_reducible apply Then.e)) | ((with_reducible apply AW.condF); exact rfl; (focus ((simp only [decide_eq_true_eq, decide_eq_false_iff_not, Bool.not_eq_true', Bool.not_eq_false', Bool.not_true, Bool.not_false]; first | assumption | omega))))))
      exact ⟨_, [(0, .slice q B.length c), (3, .pointer (some ⟨m.length + 0, 0, none⟩)), (7, gv (m.length + 1) (y * bw B + bw B)), (17, .int .i64 (B.length : Nat)), (18, .int .i64 (y + 1 : Nat))], _, by omega, (Or.inl ⟨rfl, (by repeat (first | exact trivial | (refine And.intro rfl ?_)))⟩), y + 1, rfl, by omega, by rw [e2], by rw [e2]⟩
  · obtain rfl : y = bh B := by omega
    have hIc : ∀ T, Ints (m ++ (some { cells := r.rc.cells } :: gb (iv (celK B r (bh B * bw B))) 1 :: T)) (gv (m.length + 1) (bh B * bw B)) (celK B r (bh B * bw B)) := fun T => by
      have := ints_gv2 (m := m) (L := some { cells := r.rc.cells } :: gb (iv (celK B r (bh B * bw B))) 1 :: T) (k := 1) (l := celK B r (bh B * bw B)) rfl
      rwa [hlen] at this
    have hDc := fun T => hD _ _ (hIc T)
    change ∀ T, ACall Tryd.prog 114 #[.int .i64 ((rowOf B 0).size : Nat), .int .i64 (B.length : Nat), _] _ _ at hDc
    (repeat (first | (with_reducible refine AWo.cons ?_) | ((with_reducible refine Step.id ?_); first | ((with_reducible apply Step.move); exact rfl; exact rfl) | ((with_reducible apply Step.assign); exact rfl; exact rfl) | ((with_reducible apply Step.load); exact rfl; (focus (decide +kernel)); exact rfl; (focus (exact Rd.old _ (by assumption)))) | ((with_reducible apply Step.ix1); exact rfl; (focus (assumption)); exact rfl; (focus (decide +kernel)); exact rfl; (focus (omega))) | ((with_reducible apply Step.lenS); exact rfl; exact un9; exact rfl) | ((with_reducible apply Step.lss); exact rfl; exact rfl; exact rfl) | ((with_reducible apply Step.len); exact rfl; (focus (assumption)); (focus (decide +kernel)); exact rfl) | ((with_reducible apply Step.callG fit (k := 2)); exact rfl; exact rfl; exact Tryd.func114; exact rfl; exact rfl; exact (hDc _); (focus (first | (simp only [List.nil_append, List.cons_append, List.set_cons_zero, List.set_cons_succ, iv_set, bv_set, iv_rep, bv_rep]; done) | (simp only [List.nil_append, List.cons_append, List.set_cons_zero, List.set_cons_succ, iv_set, bv_set, iv_rep, bv_rep]; rfl) | rfl)))) | (with_reducible refine AWo.nil ?_) | ((with_reducible apply AW.seq)) | ((with_reducible apply Then.n)) | ((with_reducible apply AW.regL)) | ((with_reducible apply AW.exit)) | ((with_reducible apply InBlk.hit)) | ((with_reducible apply Then.e)) | ((with_reducible apply AW.condF); exact rfl; (focus ((simp only [decide_eq_true_eq, decide_eq_false_iff_not, Bool.not_eq_true', Bool.not_eq_false', Bool.not_true, Bool.not_false]; first | assumption | omega))))))
    (refine AW.ret ?_; (repeat (first | refine Then.r ?_ | refine InBlk.r ?_)))
    refine ⟨_, rfl, [some { cells := r.rc.cells }, gb (iv (celK B r (bh B * bw B))) 1, gb (picG (pxl B r) (bw B) (bh B)) 1], rfl, _, rfl, ?_⟩
    rw [punch_pic, gv_pos (by omega), gb_pos (c := picG (pxl B r) (bw B) (bh B)) (by rw [picG_len]; omega)]
    exact picB_strs (b := { cells := picG (pxl B r) (bw B) (bh B), kind := .grow, size := 1 }) (by rw [get_app]; rfl) (picG_full _ _ _) rfl
end Go.Proofs.YtibhgdglbillaaaDoor.Abs
namespace Go.Proofs.YtibhgdglbillaaaDoor.Abs
set_option linter.unusedSimpArgs false
set_option linter.unusedVariables false
open Go.RowKit
open Go.Proofs.YtibhgdglbillaaaDoor.Sim
open Go.Proofs
/-- Pieces in a row of one's own. -/
def PP (M : AM) (b0 : Nat) (u : Value) (l : List Plc) : Prop := Row M b0 6 u (plc l) l.length
theorem PP.nil {M : AM} {b0 : Nat} : PP M b0 (.slice none 0 0) [] := Row.nil
theorem PP.pcs {M : AM} {b0 : Nat} {u : Value} {l : List Plc} (h : PP M b0 u l) (hM : 0 < M.length) : Pcs M u l := by
  obtain ⟨a, h1, h2, h3⟩ := Row.sl h hM
  refine ⟨a, 0, h1, h2, fun i hi => ?_⟩
  obtain ⟨b, k1, k2⟩ := h3 (by omega)
  exact ⟨b, k1, fun j v hj => by
    have := k2 _ v (plc_get l i hi j v hj)
    rw [Nat.zero_add] at this
    rwa [Nat.zero_add]⟩
/-- What the reference's reading comes to. -/
def RRd (m0 : AM) (b0 n : Nat) (x : Option (List Plc × List Nd)) (M : AM) (w : Value) : Prop := match x with
  | none => ∃ u q l, w = .tuple #[u, q, .bool false] ∧ PP M b0 u l ∧ l.length ≤ n
  | some (l, ps) => ∃ u q, w = .tuple #[u, q, .bool true] ∧ PP M b0 u l ∧ PN m0 q ps
theorem sz63 : szB Tryd.prog 63 = some 3 := by kernel_rfl
theorem el77 : elemB Tryd.prog 77 = some (82, 6, 48, #[.int .i64 0, .int .i64 0, .int .i64 0, .int .i64 0, .int .i64 0, .bool false]) := by kernel_rfl
theorem un77 : Tryd.prog.underlying 77 = some (.slice 82) := by kernel_rfl
theorem bl82 {a x y z u : Int} {c : Bool} : abuild Tryd.prog 82 [(0, .int .i64 a), (1, .agg #[.int .i64 x, .int .i64 y, .int .i64 z, .int .i64 u]), (2, .bool c)] = some (.agg #[.int .i64 a, .int .i64 x, .int .i64 y, .int .i64 z, .int .i64 u, .bool c]) := by kernel_rfl
theorem bs77 {m : AM} {k : Nat} {a x y z u : Int} {c : Bool} : abuildSlice Tryd.prog m k 77 1 [(0, .agg #[.int .i64 a, .int .i64 x, .int .i64 y, .int .i64 z, .int .i64 u, .bool c])] = some (.slice (some ⟨k, 0, none⟩) 1 1, m.set k (some { cells := [.int .i64 a, .int .i64 x, .int .i64 y, .int .i64 z, .int .i64 u, .bool c] })) := by kernel_rfl
theorem sz23 : szB Tryd.prog 23 = some 4 := by kernel_rfl
theorem rdL_set {M : AM} {a i o : Nat} {c : List Value} (h : RdL M i o c) (ha : a ≠ i) (x : Option Blk) : RdL (M.set a x) i o c := by
  obtain ⟨b, k1, k2⟩ := h
  exact ⟨b, by rw [List.getElem?_set_ne ha]; exact k1, k2⟩
theorem rd_set1 {M : AM} {a i o : Nat} {c : Value} (h : Rd M i o c) (ha : a ≠ i) (x : Option Blk) : Rd (M.set a x) i o c := by
  obtain ⟨b, k1, k2⟩ := h
  exact ⟨b, by rw [List.getElem?_set_ne ha]; exact k1, k2⟩
theorem rd_set2 {M : AM} {a b : Nat} {A B : Blk} {cA cB : List Value} (hab : a ≠ b) (ha : a < M.length) (hb : b < M.length) (hA : A.cells = cA) (hB : B.cells = cB) : RdL ((M.set a (some A)).set b (some B)) a 0 cA ∧ RdL ((M.set a (some A)).set b (some B)) b 0 cB := by
  refine ⟨⟨A, by rw [List.getElem?_set_ne (Ne.symm hab), List.getElem?_set_self ha], fun j v hj => by rw [hA]; simpa using hj⟩, ⟨B, by rw [List.getElem?_set_self (by simpa using hb)], fun j v hj => by rw [hB]; simpa using hj⟩⟩
set_option maxHeartbeats 16000000 in
set_option maxRecDepth 100000 in
theorem rread_ok {B : Brd} {K : List Kd} (hg : goodB B K = true) : ∀ (f : Nat), f ≤ 32 → ∀ {r : R4}, r.ok (bw B) (bh B) → r.size ≤ f → ∀ {m0 m : AM} {sv kv v : Value} {ps : List Nd},
    (∃ N, m = m0 ++ N) → Strs m sv B → Kds m kv K → PN m0 v ps → ps.length ≤ 1000000 →
    ACall Tryd.prog 90 #[sv, kv, v, .agg r.rc.cells.toArray] m (More (RRd m0 m.length ps.length (rdM B K f r ps)) m) := by
  intro f
  induction f with
  | zero =>
    intro _ r hr hs
    exfalso
    unfold R4.ok at hr
    unfold R4.size at hs
    omega
  | succ f ih =>
    intro hf32 r hr hs m0 m sv kv v ps hm0 hS hKd hP hlen
    have ih := @ih (by omega)
    have hgb : boardB B = true := by simp only [goodB, Bool.and_eq_true] at hg; exact hg.1
    have hin := good_in hgb
    have h16 : r.x ≤ 16 ∧ r.y ≤ 16 ∧ r.a ≤ 16 ∧ r.b ≤ 16 := by
      have := hin
      unfold R4.ok at hr
      omega
    have hkl : K.length ≤ 12 := by simp only [goodB, kindsB, Bool.and_eq_true, decide_eq_true_eq] at hg; exact hg.2.1
    cases ps with
    | nil =>
      rw [rd_nil]
      obtain ⟨a, o, sl, _⟩ := hP
      change Sl v a o 0 at sl
      refine ACall.start Tryd.func90 rfl rfl ?_
      (repeat (first | (with_reducible refine AWo.cons ?_) | ((with_reducible refine Step.id ?_); first | ((with_reducible apply Step.move); exact rfl; exact rfl) | ((with_reducible apply Step.assign); exact rfl; exact rfl) | ((with_reducible apply Step.eql); exact rfl; exact rfl; exact rfl) | ((with_reducible apply Step.len); exact rfl; (focus (assumption)); (focus (decide +kernel)); exact rfl) | ((with_reducible apply Step.box 0); exact rfl; exact rfl; (focus (kernel_rfl)); exact rfl; (focus (first | (simp only [List.nil_append, List.cons_append, List.set_cons_zero, List.set_cons_succ, iv_set, bv_set, iv_rep, bv_rep]; done) | (simp only [List.nil_append, List.cons_append, List.set_cons_zero, List.set_cons_succ, iv_set, bv_set, iv_rep, bv_rep]; rfl) | rfl)))) | (with_reducible refine AWo.nil ?_) | ((with_reducible apply AW.seq)) | ((with_reducible apply Then.n)) | ((with_reducible apply AW.regL)) | ((with_reducible apply AW.condT); exact rfl; (focus (rfl)))))
      (refine AW.ret ?_; (repeat (first | refine Then.r ?_ | refine InBlk.r ?_)))
      exact ⟨_, rfl, _, rfl, _, _, [], rfl, PP.nil, Nat.le_refl _⟩
    | cons n ps =>
      obtain ⟨M0, hM0⟩ : ∃ M0, m ++ [some { cells := r.rc.cells }] = M0 := ⟨_, rfl⟩
      have hMN : ∃ N, M0 = m ++ N := ⟨_, hM0.symm⟩
      have y7 : ∀ T, RdL (M0 ++ T) (m.length + 0) 0 r.rc.cells := fun T => by rw [← hM0]; exact RdL.old _ (show RdL (m ++ [some { cells := r.rc.cells }]) (m.length + 0) 0 r.rc.cells from RdL.new rfl rfl)
      obtain ⟨a, o, c, hpsc, rfl, hrd⟩ := hP.cons
      have hPt := fun k => PN.tail (k := k) hpsc hrd
      have sl : Sl (.slice (some ⟨a, o, none⟩) (ps.length + 1) (c + 1)) a o (ps.length + 1) := .inr (.inl ⟨c + 1, by omega, rfl⟩)
      have hn := hrd 0 (by simp)
      have hnM : ∀ T, RdL (M0 ++ T) a o (ndc1 n) := fun T => by
        obtain ⟨N, e⟩ := hMN
        obtain ⟨N0, e0⟩ := hm0
        rw [e, e0, List.append_assoc, List.append_assoc]
        simpa using RdL.old _ hn
      clear hn hrd
      obtain ⟨nop, narg, nt⟩ := n
      simp only [ndc1] at hnM
      refine ACall.start Tryd.func90 rfl rfl ?_
      (repeat (first | (with_reducible refine AWo.cons ?_) | ((with_reducible refine Step.id ?_); first | ((with_reducible apply Step.move); exact rfl; exact rfl) | ((with_reducible apply Step.assign); exact rfl; exact rfl) | ((with_reducible apply Step.eql); exact rfl; exact rfl; exact rfl) | ((with_reducible apply Step.len); exact rfl; (focus (assumption)); (focus (decide +kernel)); exact rfl) | ((with_reducible apply Step.box 0); exact rfl; exact rfl; (focus (kernel_rfl)); exact rfl; (focus (first | (simp only [List.nil_append, List.cons_append, List.set_cons_zero, List.set_cons_succ, iv_set, bv_set, iv_rep, bv_rep]; done) | (simp only [List.nil_append, List.cons_append, List.set_cons_zero, List.set_cons_succ, iv_set, bv_set, iv_rep, bv_rep]; rfl) | rfl)))) | (with_reducible refine AWo.nil ?_) | ((fail_if_success (with_reducible refine AW.atR (id := 3) ?_)); ((with_reducible apply AW.seq))) | ((with_reducible apply Then.n)) | ((with_reducible apply AW.regL)) | ((with_reducible apply AW.skip)) | ((with_reducible apply AW.condF); exact rfl; (focus (rfl)))))
      change AW _ _ _ _ _ (m ++ [some { cells := r.rc.cells }]) _
      rw [hM0]
      refine AW.rebase ?_
      rw [List.append_nil]
      refine AW.seq ?_
      refine AW.flatG fit [(0, sv), (1, kv), (2, .slice (some ⟨a, o, none⟩) (ps.length + 1) (c + 1)), (7, .pointer (some ⟨m.length + 0, 0, none⟩))] [0, 1, 2, 7] [[], [0], [0], [], [0], [], [0, 3, 5, 4, 3, 0], [2, 0, 6, 5, 4, 3, 2, 1, 0]]
        (fun p => [(0, sv), (1, kv), (7, .pointer (some ⟨m.length + 0, 0, none⟩)), (11, .pointer (some ⟨p 5, 0, none⟩)), (12, rsV a o 3 ps.length c (p 4))]) [(5, some { cells := [.int .i64 nop, .int .i64 narg, .bool nt] }), (4, none)] (by repeat (first | exact trivial | (refine And.intro rfl ?_))) rfl (by decide +kernel) ?_ ?_
      · clear ih hS hKd hP hMN hM0 y7 hPt hm0
        (repeat (first | ((with_reducible refine Step.id ?_); first | ((with_reducible apply Step.move); exact rfl; exact rfl) | ((with_reducible apply Step.loadL (n := 3)); exact rfl; (focus (decide +kernel)); (focus (decide +kernel)); exact rfl; (focus (exact hnM _)); exact rfl; exact rfl) | ((with_reducible apply Step.ix (s := 3) (k := 0)); exact rfl; (focus (assumption)); exact rfl; (focus (decide +kernel)); exact rfl; (focus (omega)))) | ((fail_if_success (with_reducible refine AWg.atSlice ?_)); apply AWg.val; exact rfl) | (with_reducible intro p hp N) | exact ⟨put_same _ _ _, rfl⟩))
        refine AWg.new (fun k => rsV a o 3 ps.length c k) (b := none) rfl ?_ ?_
        · intro p hp N
          ((with_reducible apply Step.rest); exact rfl; exact rfl; exact hpsc; exact un58; exact sz63; exact rfl)
          exact ⟨put_same _ _ _, rfl⟩
        (repeat (first | ((with_reducible refine Step.id ?_); first | ((with_reducible apply Step.allocG); exact ze63; exact rfl) | ((with_reducible apply Step.storeG (n := 3)); exact rfl; exact rfl; (focus (exact hM)); exact rfl; (focus (decide +kernel)); exact rfl; (focus (first | kernel_rfl | (simp [Value.cells, Value.oneCell']))); exact rfl)) | apply AWg.allocO | (apply AWg.fillO 5; exact rfl; exact rfl; exact rfl; exact rfl) | (apply AWg.asgO 4; exact rfl; exact rfl; exact rfl; exact rfl; (intro p; exact rfl)) | (with_reducible intro p hp M hM) | (with_reducible intro p hp N) | exact ⟨put_same _ _ _, rfl⟩ | exact (rfl : List.set _ _ _ = _) | ((with_reducible apply AWg.nil))))
        exact ⟨fun p => (by repeat (first | exact trivial | (refine And.intro rfl ?_))), rfl⟩
      intro p N t2 hp hbl hnd0 ht2
      refine Then.n ?_
      refine AW.weak ht2 ?_
      have b11 : (M0 ++ N)[p 5]? = some (some { cells := [.int .i64 nop, .int .i64 narg, .bool nt] }) := hbl (5, _) (by simp)
      have htl := hPt (p 4)
      have hMN1 : ∃ N', M0 ++ N = m ++ N' := by obtain ⟨N', e⟩ := hMN; exact ⟨_, by rw [e, List.append_assoc]⟩
      have y7' : ∀ T, RdL ((M0 ++ N) ++ T) (m.length + 0) 0 r.rc.cells := fun T => by rw [List.append_assoc]; exact y7 _
      generalize rsV a o 3 ps.length c (p 4) = tl at *
      generalize p 5 = a11 at *
      generalize M0 ++ N = M at *
      refine AW.rebase ?_
      rw [List.append_nil]
      clear hbl hnd0 ht2 hp p y7 hMN hM0 hnM hPt sl hpsc M0 N t2
      have y11 : ∀ T, RdL (M ++ T) a11 0 [.int .i64 nop, .int .i64 narg, .bool nt] := fun T => RdL.old _ ⟨_, b11, fun j v hj => by simpa using hj⟩
      refine AW.seq ?_
      have hLA := fun M => leftA_ok (m := M) r narg
      have hRA := fun M => rightA_ok (m := M) r narg
      change ∀ M, ACall Tryd.prog 74 #[.agg r.rc.cells.toArray, _] _ (Ret (.agg (leftW r narg).cells.toArray) _) at hLA
      change ∀ M, ACall Tryd.prog 75 #[.agg r.rc.cells.toArray, _] _ (Ret (.agg (rightW r narg).cells.toArray) _) at hRA
      have z0 : ∀ T, Rd (M ++ T) a11 (0 + 0) (.int .i64 nop) := fun T => (y11 T).at_ 0 rfl
      have z1 : ∀ T, Rd (M ++ T) a11 (0 + 1) (.int .i64 narg) := fun T => (y11 T).at_ 1 rfl
      have z2 : ∀ T, Rd (M ++ T) a11 (0 + 2) (.bool nt) := fun T => (y11 T).at_ 2 rfl
      refine AW.flatG fit [(0, sv), (1, kv), (7, .pointer (some ⟨m.length + 0, 0, none⟩)), (11, .pointer (some ⟨a11, 0, none⟩)), (12, tl)] [0, 1, 7, 11, 12] [[], [], [0], [2, 0], [], [], [0], [2, 0, 3], [], [], [1, 6, 2, 9, 8, 7, 6, 1, 0], [1, 3, 0, 10, 9, 8, 7, 6, 5, 4, 3, 2, 1, 0]]
        (fun p => [(0, sv), (1, kv), (7, .pointer (some ⟨m.length + 0, 0, none⟩)), (11, .pointer (some ⟨a11, 0, none⟩)), (12, tl), (13, .pointer (some ⟨p 8, 0, none⟩)), (14, .pointer (some ⟨p 9, 0, none⟩))]) [(9, some { cells := (rightW r narg).cells }), (8, some { cells := (leftW r narg).cells })] (by repeat (first | exact trivial | (refine And.intro rfl ?_))) rfl (by decide +kernel) ?_ ?_
      · clear ih hS hKd hP hMN1 htl
        (repeat (first | ((with_reducible refine Step.id ?_); first | ((with_reducible apply Step.load); exact rfl; (focus (decide +kernel)); exact rfl; (focus (exact z1 _))) | ((with_reducible apply Step.loadL (n := 4)); exact rfl; (focus (decide +kernel)); (focus (decide +kernel)); exact rfl; (focus (exact y7' _)); exact rfl; exact rfl) | ((with_reducible apply Step.field (k := 1)); exact rfl; (focus (decide +kernel)); exact rfl) | ((with_reducible apply Step.callR fit); exact rfl; exact Tryd.func74; exact rfl; exact rfl; exact (hLA _)) | ((with_reducible apply Step.callR fit); exact rfl; exact Tryd.func75; exact rfl; exact rfl; exact (hRA _)) | ((with_reducible apply Step.allocG); exact ze23; exact rfl) | ((with_reducible apply Step.storeG (n := 4)); exact rfl; exact rfl; (focus (exact hM)); exact rfl; (focus (decide +kernel)); exact rfl; (focus (first | kernel_rfl | (simp [Value.cells, Value.oneCell']))); exact rfl)) | apply AWg.allocO | (apply AWg.fillO 8; exact rfl; exact rfl; exact rfl; exact rfl) | (apply AWg.fillO 9; exact rfl; exact rfl; exact rfl; exact rfl) | ((fail_if_success (with_reducible refine AWg.atSlice ?_)); apply AWg.val; exact rfl) | (with_reducible intro p hp M hM) | (with_reducible intro p hp N) | exact ⟨put_same _ _ _, rfl⟩ | exact (rfl : List.set _ _ _ = _) | ((with_reducible apply AWg.nil))))
        exact ⟨fun p => (by repeat (first | exact trivial | (refine And.intro rfl ?_))), rfl⟩
      intro p N t2 hp hbl hnd ht2
      refine Then.n ?_
      refine AW.weak ht2 ?_
      have b13 : (M ++ N)[p 8]? = some (some { cells := (leftW r narg).cells }) := hbl (8, _) (by simp)
      have b14 : (M ++ N)[p 9]? = some (some { cells := (rightW r narg).cells }) := hbl (9, _) (by simp)
      have hMN2 : ∃ N', M ++ N = m ++ N' := by obtain ⟨N', e⟩ := hMN1; exact ⟨_, by rw [e, List.append_assoc]⟩
      have lt7 : m.length + 0 < M.length := by obtain ⟨b, h1, _⟩ := y7' []; rw [List.append_nil] at h1; exact (List.getElem?_eq_some_iff.1 h1).1
      have lt11 := (List.getElem?_eq_some_iff.1 b11).1
      have n13a : p 8 ≠ a11 := by have := hp 8; omega
      have n14a : p 9 ≠ a11 := by have := hp 9; omega
      have n13b : p 8 ≠ m.length + 0 := by have := hp 8; omega
      have n14b : p 9 ≠ m.length + 0 := by have := hp 9; omega
      have g13 : m.length ≤ p 8 := by obtain ⟨N', e⟩ := hMN1; have := hp 8; rw [e, List.length_append] at this; omega
      have g14 : m.length ≤ p 9 := by obtain ⟨N', e⟩ := hMN1; have := hp 9; rw [e, List.length_append] at this; omega
      have n34 : p 9 ≠ p 8 := by simpa using hnd
      have y7 : ∀ T, RdL ((M ++ N) ++ T) (m.length + 0) 0 r.rc.cells := fun T => by rw [List.append_assoc]; exact y7' _
      have z0' : ∀ T, Rd ((M ++ N) ++ T) a11 (0 + 0) (.int .i64 nop) := fun T => by rw [List.append_assoc]; exact z0 _
      have z1' : ∀ T, Rd ((M ++ N) ++ T) a11 (0 + 1) (.int .i64 narg) := fun T => by rw [List.append_assoc]; exact z1 _
      have z2' : ∀ T, Rd ((M ++ N) ++ T) a11 (0 + 2) (.bool nt) := fun T => by rw [List.append_assoc]; exact z2 _
      clear z0 z1 z2 y7' y11 b11 hMN1 hLA hRA hbl hnd ht2 lt7 lt11
      generalize p 8 = a13 at *
      generalize p 9 = a14 at *
      generalize M ++ N = M1 at *
      refine AW.rebase ?_
      clear hp p N M t2
      have hml : m.length ≤ M1.length := by obtain ⟨N', e⟩ := hMN2; rw [e, List.length_append]; omega
      have hlen' : ps.length + 1 ≤ 1000000 := by simpa using hlen
      by_cases o0 : nop = 0
      · subst o0
        rw [rd_waste rfl]
        by_cases w1 : narg = 0
        · subst w1
          cases nt with
          | false =>
            (repeat (first | (with_reducible refine AWo.cons ?_) | ((with_reducible refine Step.id ?_); first | ((with_reducible apply Step.gdT); exact rfl; exact rfl; (focus (rfl))) | ((with_reducible apply Step.move); exact rfl; exact rfl) | ((with_reducible apply Step.assign); exact rfl; exact rfl) | ((with_reducible apply Step.load); exact rfl; (focus (decide +kernel)); exact rfl; (focus (first | exact z0' _ | exact z1' _ | exact z2' _))) | ((with_reducible apply Step.field0); exact rfl; (focus (decide +kernel)); exact rfl) | ((with_reducible apply Step.field (k := 1)); exact rfl; (focus (decide +kernel)); exact rfl) | ((with_reducible apply Step.field (k := 2)); exact rfl; (focus (decide +kernel)); exact rfl) | ((with_reducible apply Step.eql); exact rfl; exact rfl; exact rfl) | ((with_reducible apply Step.not); exact rfl; exact rfl) | ((with_reducible apply Step.pickT); exact rfl; exact rfl; exact rfl; exact rfl; (focus (rfl)))) | (with_reducible refine AWo.nil ?_) | ((with_reducible apply AW.seq)) | ((with_reducible apply Then.n)) | ((with_reducible apply AW.regL)) | ((with_reducible apply AW.block)) | ((with_reducible apply AW.drawL fit); (focus (decide +kernel))) | ((with_reducible apply AW.condT); exact rfl; (focus (rfl)))))
            (refine AW.ret ?_; (repeat (first | refine Then.r ?_ | refine InBlk.r ?_)))
            obtain ⟨N, hN⟩ := hMN2
            exact ⟨_, rfl, N, by rw [List.append_nil]; exact hN, _, _, rfl, PP.nil, htl⟩
          | true =>
            (repeat (first | (with_reducible refine AWo.cons ?_) | ((with_reducible refine Step.id ?_); first | ((with_reducible apply Step.gdT); exact rfl; exact rfl; (focus (rfl))) | ((with_reducible apply Step.move); exact rfl; exact rfl) | ((with_reducible apply Step.assign); exact rfl; exact rfl) | ((with_reducible apply Step.load); exact rfl; (focus (decide +kernel)); exact rfl; (focus (first | exact z0' _ | exact z1' _ | exact z2' _))) | ((with_reducible apply Step.field0); exact rfl; (focus (decide +kernel)); exact rfl) | ((with_reducible apply Step.field (k := 1)); exact rfl; (focus (decide +kernel)); exact rfl) | ((with_reducible apply Step.field (k := 2)); exact rfl; (focus (decide +kernel)); exact rfl) | ((with_reducible apply Step.eql); exact rfl; exact rfl; exact rfl) | ((with_reducible apply Step.not); exact rfl; exact rfl) | ((with_reducible apply Step.pickT); exact rfl; exact rfl; exact rfl; exact rfl; (focus (rfl)))) | (with_reducible refine AWo.nil ?_) | ((with_reducible apply AW.seq)) | ((with_reducible apply Then.n)) | ((with_reducible apply AW.regL)) | ((with_reducible apply AW.block)) | ((with_reducible apply AW.drawL fit); (focus (decide +kernel))) | ((with_reducible apply AW.condT); exact rfl; (focus (rfl)))))
            (refine AW.ret ?_; (repeat (first | refine Then.r ?_ | refine InBlk.r ?_)))
            obtain ⟨N, hN⟩ := hMN2
            exact ⟨_, rfl, N, by rw [List.append_nil]; exact hN, _, _, [], rfl, PP.nil, by simp⟩
        · rw [if_neg (fun h => w1 h.1)]
          (repeat (first | (with_reducible refine AWo.cons ?_) | ((with_reducible refine Step.id ?_); first | ((with_reducible apply Step.gdF); exact rfl; exact rfl; (focus ((simp only [decide_eq_true_eq, decide_eq_false_iff_not, Bool.not_eq_true', Bool.not_eq_false', Bool.not_true, Bool.not_false]; first | assumption | omega)))) | ((with_reducible apply Step.move); exact rfl; exact rfl) | ((with_reducible apply Step.assign); exact rfl; exact rfl) | ((with_reducible apply Step.load); exact rfl; (focus (decide +kernel)); exact rfl; (focus (first | exact z0' _ | exact z1' _))) | ((with_reducible apply Step.field0); exact rfl; (focus (decide +kernel)); exact rfl) | ((with_reducible apply Step.field (k := 1)); exact rfl; (focus (decide +kernel)); exact rfl) | ((with_reducible apply Step.eql); exact rfl; exact rfl; exact rfl) | ((with_reducible apply Step.pickF); exact rfl; exact rfl; exact rfl; exact rfl; (focus ((simp only [decide_eq_true_eq, decide_eq_false_iff_not, Bool.not_eq_true', Bool.not_eq_false', Bool.not_true, Bool.not_false]; first | assumption | omega))))) | (with_reducible refine AWo.nil ?_) | ((with_reducible apply AW.seq)) | ((with_reducible apply Then.n)) | ((with_reducible apply AW.regL)) | ((with_reducible apply AW.block)) | ((with_reducible apply AW.drawL fit); (focus (decide +kernel))) | ((with_reducible apply AW.condT); exact rfl; (focus (rfl)))))
          (refine AW.ret ?_; (repeat (first | refine Then.r ?_ | refine InBlk.r ?_)))
          obtain ⟨N, hN⟩ := hMN2
          exact ⟨_, rfl, N, by rw [List.append_nil]; exact hN, _, _, [], rfl, PP.nil, by simp⟩
      by_cases o1 : nop = 1
      · subst o1
        rw [rd_piece rfl]
        have hK1 : Kds M1 kv K := by obtain ⟨N', e⟩ := hMN2; rw [e]; exact hKd.old _
        obtain ⟨A2, O2, sl2, la2, rd2⟩ := id hK1
        obtain ⟨q2, c2, rfl⟩ := sl2.shape
        by_cases c1 : narg < 0 ∨ (K.length : Int) ≤ narg
        · rw [if_neg (by dsimp only; omega)]
          by_cases c2 : narg < 0
          · (repeat (first | (with_reducible refine AWo.cons ?_) | ((with_reducible refine Step.id ?_); first | ((with_reducible apply Step.gdF); exact rfl; exact rfl; (focus ((simp only [decide_eq_true_eq, decide_eq_false_iff_not, Bool.not_eq_true', Bool.not_eq_false', Bool.not_true, Bool.not_false]; first | assumption | omega)))) | ((with_reducible apply Step.move); exact rfl; exact rfl) | ((with_reducible apply Step.assign); exact rfl; exact rfl) | ((with_reducible apply Step.load); exact rfl; (focus (decide +kernel)); exact rfl; (focus (first | exact z0' _ | exact z1' _))) | ((with_reducible apply Step.field0); exact rfl; (focus (decide +kernel)); exact rfl) | ((with_reducible apply Step.field (k := 1)); exact rfl; (focus (decide +kernel)); exact rfl) | ((with_reducible apply Step.lss); exact rfl; exact rfl; exact rfl) | ((with_reducible apply Step.eql); exact rfl; exact rfl; exact rfl) | ((with_reducible apply Step.pickT); exact rfl; exact rfl; exact rfl; exact rfl; (focus ((simp only [decide_eq_true_eq, decide_eq_false_iff_not, Bool.not_eq_true', Bool.not_eq_false', Bool.not_true, Bool.not_false]; first | assumption | omega))))) | (with_reducible refine AWo.nil ?_) | ((with_reducible apply AW.seq)) | ((with_reducible apply Then.n)) | ((with_reducible apply AW.regL)) | ((with_reducible apply AW.block)) | ((with_reducible apply AW.condT); exact rfl; (focus (rfl))) | ((with_reducible apply AW.condF); exact rfl; (focus (rfl)))))
            (refine AW.ret ?_; (repeat (first | refine Then.r ?_ | refine InBlk.r ?_)))
            obtain ⟨N, hN⟩ := hMN2
            exact ⟨_, rfl, N, by rw [List.append_nil]; exact hN, _, _, [], rfl, PP.nil, by simp⟩
          · have c3 : (K.length : Int) ≤ narg := by omega
            (repeat (first | (with_reducible refine AWo.cons ?_) | ((with_reducible refine Step.id ?_); first | ((with_reducible apply Step.gdT); exact rfl; exact rfl; (focus ((simp only [decide_eq_true_eq, decide_eq_false_iff_not, Bool.not_eq_true', Bool.not_eq_false', Bool.not_true, Bool.not_false]; first | assumption | omega)))) | ((with_reducible apply Step.move); exact rfl; exact rfl) | ((with_reducible apply Step.assign); exact rfl; exact rfl) | ((with_reducible apply Step.load); exact rfl; (focus (decide +kernel)); exact rfl; (focus (first | exact z0' _ | exact z1' _))) | ((with_reducible apply Step.field0); exact rfl; (focus (decide +kernel)); exact rfl) | ((with_reducible apply Step.field (k := 1)); exact rfl; (focus (decide +kernel)); exact rfl) | ((with_reducible apply Step.lss); exact rfl; exact rfl; exact rfl) | ((with_reducible apply Step.geq); exact rfl; exact rfl; exact rfl) | ((with_reducible apply Step.eql); exact rfl; exact rfl; exact rfl) | ((with_reducible apply Step.len); exact rfl; (focus (assumption)); (focus (decide +kernel)); exact rfl) | ((with_reducible apply Step.pickF); exact rfl; exact rfl; exact rfl; exact rfl; (focus ((simp only [decide_eq_true_eq, decide_eq_false_iff_not, Bool.not_eq_true', Bool.not_eq_false', Bool.not_true, Bool.not_false]; first | assumption | omega))))) | (with_reducible refine AWo.nil ?_) | ((with_reducible apply AW.seq)) | ((with_reducible apply Then.n)) | ((with_reducible apply AW.regL)) | ((with_reducible apply AW.block)) | ((with_reducible apply AW.condT); exact rfl; (focus (first | rfl | (simp only [decide_eq_true_eq, decide_eq_false_iff_not, Bool.not_eq_true', Bool.not_eq_false', Bool.not_true, Bool.not_false]; first | assumption | omega)))) | ((with_reducible apply AW.condF); exact rfl; (focus (rfl)))))
            (refine AW.ret ?_; (repeat (first | refine Then.r ?_ | refine InBlk.r ?_)))
            obtain ⟨N, hN⟩ := hMN2
            exact ⟨_, rfl, N, by rw [List.append_nil]; exact hN, _, _, [], rfl, PP.nil, by simp⟩
        · obtain ⟨k, rfl⟩ : ∃ k : Nat, narg = k := ⟨narg.toNat, by omega⟩
          have hk : k < K.length := by omega
          have rk := rd2 k hk
          have hS1 : ∀ T, Strs (M1 ++ T) sv B := fun T => by obtain ⟨N', e⟩ := hMN2; rw [e]; exact (hS.old _).old _
          have hfi := fun T => RFits_ok (hS1 T) hgb (K.getD k default) hr
          simp only [Int.toNat_natCast]
          generalize okB B (K.getD k default) r = ob at *
          generalize turnedB (K.getD k default) r = tb at *
          generalize K.getD k default = kd at *
          change ∀ T, ACall Tryd.prog 55 #[_, .agg kd.cells.toArray, .agg r.rc.cells.toArray] _ _ at hfi
          have rk' : ∀ T, RdL (M1 ++ T) A2 (O2 + k * 5) kd.cells := fun T => rk.old _
          clear rk rd2 hS1
          have fin : ∀ (M' : AM) (a' : Nat) (b : Bool) , (∃ N, M' = M1 ++ N) → M1.length ≤ a' → M'[a']? = some (some { cells := plc1 (k, r, b) }) → PP M' m.length (.slice (some ⟨a', 0, none⟩) 1 1) [(k, r, b)] := fun M' a' b _ h1 h2 => .inr ⟨a', .own, 1, by omega, rfl, by rw [h2]; simp [plc], by simp [plc, plc1_len], .inl rfl⟩
          have hpre : ∀ T, ∃ N, M1 ++ T = m ++ N := fun T => by obtain ⟨N', e⟩ := hMN2; exact ⟨_, by rw [e, List.append_assoc]⟩
          cases ob with
          | false =>
            rw [if_neg (by simp)]
            (repeat (first | (with_reducible refine AWo.cons ?_) | ((with_reducible refine Step.id ?_); first | ((with_reducible apply Step.gdT); exact rfl; exact rfl; (focus (rfl))) | ((with_reducible apply Step.move); exact rfl; exact rfl) | ((with_reducible apply Step.assign); exact rfl; exact rfl) | ((with_reducible apply Step.load); exact rfl; (focus (decide +kernel)); exact rfl; (focus (first | exact z0' _ | exact z1' _))) | ((with_reducible apply Step.loadL (n := 4)); exact rfl; (focus (decide +kernel)); (focus (decide +kernel)); exact rfl; (focus (exact y7 _)); exact rfl; exact rfl) | ((with_reducible apply Step.loadL (n := 5)); exact rfl; (focus (decide +kernel)); (focus (decide +kernel)); exact rfl; (focus (exact rk' _)); exact rfl; exact rfl) | ((with_reducible apply Step.ix (s := 5)); exact rfl; (focus (assumption)); exact rfl; (focus (decide +kernel)); exact rfl; (focus (omega))) | ((with_reducible apply Step.field0); exact rfl; (focus (decide +kernel)); exact rfl) | ((with_reducible apply Step.field (k := 1)); exact rfl; (focus (decide +kernel)); exact rfl) | ((with_reducible apply Step.lss); exact rfl; exact rfl; exact rfl) | ((with_reducible apply Step.geq); exact rfl; exact rfl; exact rfl) | ((with_reducible apply Step.eql); exact rfl; exact rfl; exact rfl) | ((with_reducible apply Step.len); exact rfl; (focus (assumption)); (focus (decide +kernel)); exact rfl) | ((with_reducible apply Step.extract); exact rfl; exact rfl; exact rfl) | ((with_reducible apply Step.pickF); exact rfl; exact rfl; exact rfl; exact rfl; (focus (rfl))) | ((with_reducible apply Step.callR fit); exact rfl; exact Tryd.func55; exact rfl; exact rfl; exact (hfi _))) | (with_reducible refine AWo.nil ?_) | ((with_reducible apply AW.seq)) | ((with_reducible apply Then.n)) | ((fail_if_success (with_reducible refine AW.atL (id := 12) ?_)); ((with_reducible apply AW.regL))) | ((with_reducible apply AW.block)) | ((fail_if_success (with_reducible refine AW.atL (id := 12) ?_)); ((with_reducible apply AW.drawL fit); (focus (decide +kernel)))) | ((with_reducible apply AW.skip)) | ((with_reducible apply AW.condT); exact rfl; (focus (rfl))) | ((with_reducible apply AW.condF); exact rfl; (focus (first | rfl | (simp only [decide_eq_true_eq, decide_eq_false_iff_not, Bool.not_eq_true', Bool.not_eq_false', Bool.not_true, Bool.not_false]; first | assumption | omega))))))
            (repeat' (first | ((with_reducible refine Step.id ?_); first | ((with_reducible apply Step.gdF); exact rfl; exact rfl; (focus (rfl))) | ((with_reducible apply Step.move); exact rfl; exact rfl) | ((with_reducible apply Step.assign); exact rfl; exact rfl) | ((with_reducible apply Step.load); exact rfl; (focus (decide +kernel)); exact rfl; (focus (exact z1' _))) | ((with_reducible apply Step.loadL (n := 4)); exact rfl; (focus (decide +kernel)); (focus (decide +kernel)); exact rfl; (focus (exact y7 _)); exact rfl; exact rfl) | ((with_reducible apply Step.field (k := 1)); exact rfl; (focus (decide +kernel)); exact rfl) | ((with_reducible apply Step.pickF); exact rfl; exact rfl; exact rfl; exact rfl; (focus (rfl))) | ((with_reducible apply Step.buildS 0); exact rfl; exact rfl; exact (fun _ _ => bs77); exact rfl; (focus (first | (simp only [List.nil_append, List.cons_append, List.set_cons_zero, List.set_cons_succ, iv_set, bv_set, iv_rep, bv_rep]; done) | (simp only [List.nil_append, List.cons_append, List.set_cons_zero, List.set_cons_succ, iv_set, bv_set, iv_rep, bv_rep]; rfl) | rfl))) | ((with_reducible apply Step.build); exact rfl; exact bl82; exact rfl)) | ((with_reducible apply Then.n)) | ((with_reducible apply AW.drawT fit (T := (.step 0 (.step 1 (.step 2 (.step 3 (.step 4 (.step 6 (.step 7 (.step 8 (.step 9 (.step 10 (.both (.step 5 (.step 11 (.step 12 (.step 13 (.step 14 (.step 15 (.step 16 .done))))))) (.step 11 (.step 12 (.step 13 (.step 5 (.step 14 (.step 15 (.step 16 .done)))))))))))))))))))); (focus (decide +kernel))) | ((with_reducible apply AWt.step); exact rfl) | ((with_reducible apply AWt.done)) | refine AWt.both ?_ ?_))
            all_goals (refine AW.ret ?_; (repeat (first | refine Then.r ?_ | refine InBlk.r ?_)))
            all_goals exact ⟨_, rfl, (hpre _).choose, (hpre _).choose_spec, _, _, [(k, r, false)], rfl, fin _ _ _ ⟨_, rfl⟩ (by simp) (by rw [get_app]; rfl), by simp⟩
          | true =>
            have tt : (true && tb) = tb := rfl
            rw [tt] at hfi
            by_cases e : tb = nt
            · subst e
              rw [if_pos ⟨by omega, by omega, rfl, rfl⟩]
              (repeat (first | (with_reducible refine AWo.cons ?_) | ((with_reducible refine Step.id ?_); first | ((with_reducible apply Step.gdT); exact rfl; exact rfl; (focus (rfl))) | ((with_reducible apply Step.move); exact rfl; exact rfl) | ((with_reducible apply Step.assign); exact rfl; exact rfl) | ((with_reducible apply Step.load); exact rfl; (focus (decide +kernel)); exact rfl; (focus (first | exact z0' _ | exact z1' _))) | ((with_reducible apply Step.loadL (n := 4)); exact rfl; (focus (decide +kernel)); (focus (decide +kernel)); exact rfl; (focus (exact y7 _)); exact rfl; exact rfl) | ((with_reducible apply Step.loadL (n := 5)); exact rfl; (focus (decide +kernel)); (focus (decide +kernel)); exact rfl; (focus (exact rk' _)); exact rfl; exact rfl) | ((with_reducible apply Step.ix (s := 5)); exact rfl; (focus (assumption)); exact rfl; (focus (decide +kernel)); exact rfl; (focus (omega))) | ((with_reducible apply Step.field0); exact rfl; (focus (decide +kernel)); exact rfl) | ((with_reducible apply Step.field (k := 1)); exact rfl; (focus (decide +kernel)); exact rfl) | ((with_reducible apply Step.lss); exact rfl; exact rfl; exact rfl) | ((with_reducible apply Step.geq); exact rfl; exact rfl; exact rfl) | ((with_reducible apply Step.eql); exact rfl; exact rfl; exact rfl) | ((with_reducible apply Step.len); exact rfl; (focus (assumption)); (focus (decide +kernel)); exact rfl) | ((with_reducible apply Step.extract); exact rfl; exact rfl; exact rfl) | ((with_reducible apply Step.pickF); exact rfl; exact rfl; exact rfl; exact rfl; (focus (rfl))) | ((with_reducible apply Step.callR fit); exact rfl; exact Tryd.func55; exact rfl; exact rfl; exact (hfi _))) | (with_reducible refine AWo.nil ?_) | ((with_reducible apply AW.seq)) | ((with_reducible apply Then.n)) | ((fail_if_success (with_reducible refine AW.atL (id := 12) ?_)); ((with_reducible apply AW.regL))) | ((with_reducible apply AW.block)) | ((fail_if_success (with_reducible refine AW.atL (id := 12) ?_)); ((with_reducible apply AW.drawL fit); (focus (decide +kernel)))) | ((with_reducible apply AW.skip)) | ((with_reducible apply AW.condT); exact rfl; (focus (rfl))) | ((with_reducible apply AW.condF); exact rfl; (focus (first | rfl | (simp only [decide_eq_true_eq, decide_eq_false_iff_not, Bool.not_eq_true', Bool.not_eq_false', Bool.not_true, Bool.not_false]; first | assumption | omega))))))
              (repeat' (first | ((with_reducible refine Step.id ?_); first | ((with_reducible apply Step.gdT); exact rfl; exact rfl; (focus (rfl))) | ((with_reducible apply Step.move); exact rfl; exact rfl) | ((with_reducible apply Step.assign); exact rfl; exact rfl) | ((with_reducible apply Step.load); exact rfl; (focus (decide +kernel)); exact rfl; (focus (first | exact z1' _ | exact z2' _))) | ((with_reducible apply Step.loadL (n := 4)); exact rfl; (focus (decide +kernel)); (focus (decide +kernel)); exact rfl; (focus (exact y7 _)); exact rfl; exact rfl) | ((with_reducible apply Step.field (k := 1)); exact rfl; (focus (decide +kernel)); exact rfl) | ((with_reducible apply Step.field (k := 2)); exact rfl; (focus (decide +kernel)); exact rfl) | ((with_reducible apply Step.eqlB); exact rfl; exact rfl; exact un4; exact rfl) | ((with_reducible apply Step.pickT); exact rfl; exact rfl; exact rfl; exact rfl; (focus (rfl))) | ((with_reducible apply Step.buildS 0); exact rfl; exact rfl; exact (fun _ _ => bs77); exact rfl; (focus (first | (simp only [List.nil_append, List.cons_append, List.set_cons_zero, List.set_cons_succ, iv_set, bv_set, iv_rep, bv_rep]; done) | (simp only [List.nil_append, List.cons_append, List.set_cons_zero, List.set_cons_succ, iv_set, bv_set, iv_rep, bv_rep]; rfl) | rfl))) | ((with_reducible apply Step.build); exact rfl; exact bl82; exact rfl)) | ((with_reducible apply Then.n)) | ((with_reducible apply AW.drawT fit (T := (.step 0 (.step 1 (.step 2 (.step 3 (.step 4 (.step 6 (.step 7 (.step 8 (.step 9 (.step 10 (.both (.step 5 (.step 11 (.step 12 (.step 13 (.step 14 (.step 15 (.step 16 .done))))))) (.step 11 (.step 12 (.step 13 (.step 5 (.step 14 (.step 15 (.step 16 .done)))))))))))))))))))); (focus (decide +kernel))) | ((with_reducible apply AWt.step); exact rfl) | ((with_reducible apply AWt.done)) | refine AWt.both ?_ ?_))
              all_goals (refine AW.ret ?_; (repeat (first | refine Then.r ?_ | refine InBlk.r ?_)))
              all_goals exact ⟨_, rfl, (hpre _).choose, (hpre _).choose_spec, _, _, by rw [beq_self_eq_true], fin _ _ _ ⟨_, rfl⟩ (by simp) (by rw [get_app]; rfl), htl⟩
            · rw [if_neg (fun h => e h.2.2.2)]
              have e2 : (tb == nt) = false := by simp [e]
              (repeat (first | (with_reducible refine AWo.cons ?_) | ((with_reducible refine Step.id ?_); first | ((with_reducible apply Step.gdT); exact rfl; exact rfl; (focus (rfl))) | ((with_reducible apply Step.move); exact rfl; exact rfl) | ((with_reducible apply Step.assign); exact rfl; exact rfl) | ((with_reducible apply Step.load); exact rfl; (focus (decide +kernel)); exact rfl; (focus (first | exact z0' _ | exact z1' _))) | ((with_reducible apply Step.loadL (n := 4)); exact rfl; (focus (decide +kernel)); (focus (decide +kernel)); exact rfl; (focus (exact y7 _)); exact rfl; exact rfl) | ((with_reducible apply Step.loadL (n := 5)); exact rfl; (focus (decide +kernel)); (focus (decide +kernel)); exact rfl; (focus (exact rk' _)); exact rfl; exact rfl) | ((with_reducible apply Step.ix (s := 5)); exact rfl; (focus (assumption)); exact rfl; (focus (decide +kernel)); exact rfl; (focus (omega))) | ((with_reducible apply Step.field0); exact rfl; (focus (decide +kernel)); exact rfl) | ((with_reducible apply Step.field (k := 1)); exact rfl; (focus (decide +kernel)); exact rfl) | ((with_reducible apply Step.lss); exact rfl; exact rfl; exact rfl) | ((with_reducible apply Step.geq); exact rfl; exact rfl; exact rfl) | ((with_reducible apply Step.eql); exact rfl; exact rfl; exact rfl) | ((with_reducible apply Step.len); exact rfl; (focus (assumption)); (focus (decide +kernel)); exact rfl) | ((with_reducible apply Step.extract); exact rfl; exact rfl; exact rfl) | ((with_reducible apply Step.pickF); exact rfl; exact rfl; exact rfl; exact rfl; (focus (rfl))) | ((with_reducible apply Step.callR fit); exact rfl; exact Tryd.func55; exact rfl; exact rfl; exact (hfi _))) | (with_reducible refine AWo.nil ?_) | ((with_reducible apply AW.seq)) | ((with_reducible apply Then.n)) | ((fail_if_success (with_reducible refine AW.atL (id := 12) ?_)); ((with_reducible apply AW.regL))) | ((with_reducible apply AW.block)) | ((fail_if_success (with_reducible refine AW.atL (id := 12) ?_)); ((with_reducible apply AW.drawL fit); (focus (decide +kernel)))) | ((with_reducible apply AW.skip)) | ((with_reducible apply AW.condT); exact rfl; (focus (rfl))) | ((with_reducible apply AW.condF); exact rfl; (focus (first | rfl | (simp only [decide_eq_true_eq, decide_eq_false_iff_not, Bool.not_eq_true', Bool.not_eq_false', Bool.not_true, Bool.not_false]; first | assumption | omega))))))
              (repeat' (first | ((with_reducible refine Step.id ?_); first | ((with_reducible apply Step.gdT); exact rfl; exact rfl; (focus (rfl))) | ((with_reducible apply Step.move); exact rfl; exact rfl) | ((with_reducible apply Step.assign); exact rfl; exact rfl) | ((with_reducible apply Step.load); exact rfl; (focus (decide +kernel)); exact rfl; (focus (first | exact z1' _ | exact z2' _))) | ((with_reducible apply Step.loadL (n := 4)); exact rfl; (focus (decide +kernel)); (focus (decide +kernel)); exact rfl; (focus (exact y7 _)); exact rfl; exact rfl) | ((with_reducible apply Step.field (k := 1)); exact rfl; (focus (decide +kernel)); exact rfl) | ((with_reducible apply Step.field (k := 2)); exact rfl; (focus (decide +kernel)); exact rfl) | ((with_reducible apply Step.eqlB); exact rfl; exact rfl; exact un4; exact rfl) | ((with_reducible apply Step.pickT); exact rfl; exact rfl; exact rfl; exact rfl; (focus (rfl))) | ((with_reducible apply Step.buildS 0); exact rfl; exact rfl; exact (fun _ _ => bs77); exact rfl; (focus (first | (simp only [List.nil_append, List.cons_append, List.set_cons_zero, List.set_cons_succ, iv_set, bv_set, iv_rep, bv_rep]; done) | (simp only [List.nil_append, List.cons_append, List.set_cons_zero, List.set_cons_succ, iv_set, bv_set, iv_rep, bv_rep]; rfl) | rfl))) | ((with_reducible apply Step.build); exact rfl; exact bl82; exact rfl)) | ((with_reducible apply Then.n)) | ((with_reducible apply AW.drawT fit (T := (.step 0 (.step 1 (.step 2 (.step 3 (.step 4 (.step 6 (.step 7 (.step 8 (.step 9 (.step 10 (.both (.step 5 (.step 11 (.step 12 (.step 13 (.step 14 (.step 15 (.step 16 .done))))))) (.step 11 (.step 12 (.step 13 (.step 5 (.step 14 (.step 15 (.step 16 .done)))))))))))))))))))); (focus (decide +kernel))) | ((with_reducible apply AWt.step); exact rfl) | ((with_reducible apply AWt.done)) | refine AWt.both ?_ ?_))
              all_goals (refine AW.ret ?_; (repeat (first | refine Then.r ?_ | refine InBlk.r ?_)))
              all_goals exact ⟨_, rfl, (hpre _).choose, (hpre _).choose_spec, _, _, [(k, r, tb)], by rw [e2], fin _ _ _ ⟨_, rfl⟩ (by simp) (by rw [get_app]; rfl), by simp⟩
      by_cases o2 : nop = 2 ∨ nop = 3
      · obtain ⟨d, rfl⟩ : ∃ d, nop = opI d := by
          rcases o2 with rfl | rfl
          · exact ⟨true, rfl⟩
          · exact ⟨false, rfl⟩
        clear o0 o1 o2
        have q2 : ∀ T, Rd (M1 ++ T) (m.length + 0) (0 + 2) (.int .i64 (r.a : Nat)) := fun T => (y7 T).at_ 2 rfl
        have q3 : ∀ T, Rd (M1 ++ T) (m.length + 0) (0 + 3) (.int .i64 (r.b : Nat)) := fun T => (y7 T).at_ 3 rfl
        by_cases hbad : nt = false ∧ 1 ≤ narg ∧ narg < r.len d
        · obtain ⟨rfl, hb1, hb2⟩ := hbad
          obtain ⟨i, rfl⟩ : ∃ i : Nat, narg = i := ⟨narg.toNat, by omega⟩
          have hi1 : 1 ≤ i := by omega
          have hi2 : i + 1 ≤ r.len d := by omega
          rw [rd_docut d hi1 hi2]
          have o1 := lo_ok hr hi1 hi2
          have o2 := hi_ok hr hi1 hi2
          have s1 := lo_size hr hi1 hi2
          have s2 := hi_size hr hi1 hi2
          have i1 := @ih _ o1 (by omega)
          have i2 := @ih _ o2 (by omega)
          refine AW.seq ?_
          refine AW.join (fun t' m' => (∃ N, m' = m ++ N) ∧ RdL m' a13 0 (r.lo d i).rc.cells ∧ RdL m' a14 0 (r.hi d i).rc.cells ∧
            All (fun i v => t' i = some v) [(0, sv), (1, kv), (12, tl), (13, .pointer (some ⟨a13, 0, none⟩)), (14, .pointer (some ⟨a14, 0, none⟩))]) ?_ ?_
          · clear i1 i2 ih hS hKd htl hP hm0
            cases d with
            | true =>
              have hb3 : (i : Int) < (r.a : Nat) := by have : i + 1 ≤ r.a := hi2; omega
              rw [leftW_eq] at b13
              rw [rightW_eq hi2 h16] at b14
              (repeat (first | (with_reducible refine AWo.cons ?_) | ((with_reducible refine Step.id ?_); first | ((with_reducible apply Step.gdT); exact rfl; exact rfl; (focus (first | rfl | (simp only [decide_eq_true_eq, decide_eq_false_iff_not, Bool.not_eq_true', Bool.not_eq_false', Bool.not_true, Bool.not_false]; first | assumption | omega)))) | ((with_reducible apply Step.move); exact rfl; exact rfl) | ((with_reducible apply Step.assign); exact rfl; exact rfl) | ((with_reducible apply Step.load); exact rfl; (focus (decide +kernel)); exact rfl; (focus (first | exact z0' _ | exact z1' _ | exact z2' _ | exact q2 _))) | ((with_reducible apply Step.field0); exact rfl; (focus (decide +kernel)); exact rfl) | ((with_reducible apply Step.field (k := 1)); exact rfl; (focus (decide +kernel)); exact rfl) | ((with_reducible apply Step.field (k := 2)); exact rfl; (focus (decide +kernel)); exact rfl) | ((with_reducible apply Step.lss); exact rfl; exact rfl; exact rfl) | ((with_reducible apply Step.geq); exact rfl; exact rfl; exact rfl) | ((with_reducible apply Step.eql); exact rfl; exact rfl; exact rfl) | ((with_reducible apply Step.not); exact rfl; exact rfl) | ((with_reducible apply Step.pickT); exact rfl; exact rfl; exact rfl; exact rfl; (focus (first | rfl | (simp only [decide_eq_true_eq, decide_eq_false_iff_not, Bool.not_eq_true', Bool.not_eq_false', Bool.not_true, Bool.not_false]; first | assumption | omega))))) | (with_reducible refine AWo.nil ?_) | ((with_reducible apply AW.seq)) | ((with_reducible apply Then.n)) | ((with_reducible apply AW.regL)) | ((with_reducible apply AW.block)) | ((with_reducible apply InBlk.n)) | ((with_reducible apply AW.skip)) | ((with_reducible apply AW.condT); exact rfl; (focus (rfl))) | ((with_reducible apply AW.condF); exact rfl; (focus (rfl)))))
              exact ⟨by rw [List.append_nil]; exact hMN2, by rw [List.append_nil]; exact ⟨_, b13, fun j v hj => by simpa using hj⟩, by rw [List.append_nil]; exact ⟨_, b14, fun j v hj => by simpa using hj⟩, (by repeat (first | exact trivial | (refine And.intro rfl ?_)))⟩
            | false =>
              have hb3 : (i : Int) < (r.b : Nat) := by have : i + 1 ≤ r.b := hi2; omega
              have hT := fun M => top_ok (m := M) r i
              have hB := fun M => bottom_ok (m := M) r hi2 h16
              change ∀ M, ACall Tryd.prog 76 #[.agg r.rc.cells.toArray, _] _ (Ret (.agg (r.lo false i).rc.cells.toArray) _) at hT
              change ∀ M, ACall Tryd.prog 77 #[.agg r.rc.cells.toArray, _] _ (Ret (.agg (r.hi false i).rc.cells.toArray) _) at hB
              have l13 : (leftW r i).cells.length = 4 := rfl
              have l14 : (rightW r i).cells.length = 4 := rfl
              generalize (leftW r i).cells = c13 at *
              generalize (rightW r i).cells = c14 at *
              have hh13 := (List.getElem?_eq_some_iff.1 b13).1
              have hh14 := (List.getElem?_eq_some_iff.1 b14).1
              (repeat (first | (with_reducible refine AWo.cons ?_) | ((with_reducible refine Step.id ?_); first | ((with_reducible apply Step.gdT); exact rfl; exact rfl; (focus (first | rfl | (simp only [decide_eq_true_eq, decide_eq_false_iff_not, Bool.not_eq_true', Bool.not_eq_false', Bool.not_true, Bool.not_false]; first | assumption | omega)))) | ((with_reducible apply Step.gdF); exact rfl; exact rfl; (focus (rfl))) | ((with_reducible apply Step.move); exact rfl; exact rfl) | ((with_reducible apply Step.assign); exact rfl; exact rfl) | ((with_reducible apply Step.load); exact rfl; (focus (decide +kernel)); exact rfl; (focus (first | exact z0' _ | exact z1' _ | exact z2' _ | exact q3 _))) | ((with_reducible apply Step.field0); exact rfl; (focus (decide +kernel)); exact rfl) | ((with_reducible apply Step.field (k := 1)); exact rfl; (focus (decide +kernel)); exact rfl) | ((with_reducible apply Step.field (k := 2)); exact rfl; (focus (decide +kernel)); exact rfl) | ((with_reducible apply Step.field (k := 3)); exact rfl; (focus (decide +kernel)); exact rfl) | ((with_reducible apply Step.lss); exact rfl; exact rfl; exact rfl) | ((with_reducible apply Step.geq); exact rfl; exact rfl; exact rfl) | ((with_reducible apply Step.eql); exact rfl; exact rfl; exact rfl) | ((with_reducible apply Step.not); exact rfl; exact rfl) | ((with_reducible apply Step.pickT); exact rfl; exact rfl; exact rfl; exact rfl; (focus (first | rfl | (simp only [decide_eq_true_eq, decide_eq_false_iff_not, Bool.not_eq_true', Bool.not_eq_false', Bool.not_true, Bool.not_false]; first | assumption | omega)))) | ((with_reducible apply Step.pickF); exact rfl; exact rfl; exact rfl; exact rfl; (focus (rfl)))) | (with_reducible refine AWo.nil ?_) | ((with_reducible apply AW.seq)) | ((with_reducible apply Then.n)) | ((fail_if_success (with_reducible refine AW.atL (id := 15) ?_)); ((with_reducible apply AW.regL))) | ((with_reducible apply AW.block)) | ((with_reducible apply AW.condT); exact rfl; (focus (rfl))) | ((with_reducible apply AW.condF); exact rfl; (focus (rfl)))))
              rw [List.append_nil]
              have b13' : ∀ x, (M1.set a14 x)[a13]? = some (some { cells := c13 }) := fun x => by rw [List.getElem?_set_ne n34]; exact b13
              have b14' : ∀ x, (M1.set a13 x)[a14]? = some (some { cells := c14 }) := fun x => by rw [List.getElem?_set_ne (Ne.symm n34)]; exact b14
              have y7m : RdL M1 (m.length + 0) 0 r.rc.cells := by simpa using y7 []
              have z1m : Rd M1 a11 (0 + 1) (.int .i64 (i : Nat)) := by simpa using z1' []
              have y7a : ∀ x, RdL (M1.set a13 x) (m.length + 0) 0 r.rc.cells := fun x => rdL_set y7m n13b x
              have y7b : ∀ x, RdL (M1.set a14 x) (m.length + 0) 0 r.rc.cells := fun x => rdL_set y7m n14b x
              have z1a : ∀ x, Rd (M1.set a13 x) a11 (0 + 1) (.int .i64 (i : Nat)) := fun x => rd_set1 z1m n13a x
              have z1b : ∀ x, Rd (M1.set a14 x) a11 (0 + 1) (.int .i64 (i : Nat)) := fun x => rd_set1 z1m n14a x
              clear y7 z1' z0' z2'
              (repeat' (first | ((with_reducible refine Step.id ?_); first | ((with_reducible apply Step.load); exact rfl; (focus (decide +kernel)); exact rfl; (focus (assumption))) | ((with_reducible apply Step.loadL (n := 4)); exact rfl; (focus (decide +kernel)); (focus (decide +kernel)); exact rfl; (focus (assumption)); exact rfl; exact rfl) | ((with_reducible apply Step.field (k := 1)); exact rfl; (focus (decide +kernel)); exact rfl) | ((with_reducible apply Step.callR fit); exact rfl; exact Tryd.func76; exact rfl; exact rfl; exact (hT _)) | ((with_reducible apply Step.callR fit); exact rfl; exact Tryd.func77; exact rfl; exact rfl; exact (hB _))) | ((with_reducible apply AW.drawT fit (T := (.step 0 (.step 1 (.step 2 (.step 5 (.both (.step 3 (.step 4 (.step 6 (.step 7 (.step 8 (.step 9 .done)))))) (.both (.step 4 (.both (.step 3 (.step 6 (.step 7 (.step 8 (.step 9 .done))))) (.step 6 (.step 3 (.step 7 (.step 8 (.step 9 .done))))))) (.step 6 (.both (.step 3 (.step 4 (.step 7 (.step 8 (.step 9 .done))))) (.step 4 (.step 3 (.step 7 (.step 8 (.step 9 .done))))))))))))))); (focus (decide +kernel))) | ((with_reducible apply AWt.step); exact rfl) | refine AWt.both ?_ ?_))
              all_goals (first | ((with_reducible apply Step.storeG (n := 4)); exact rfl; exact rfl; exact b13; exact rfl; exact sz23; exact rfl; (focus (kernel_rfl)); exact l13) | ((with_reducible apply Step.storeG (n := 4)); exact rfl; exact rfl; exact b14; exact rfl; exact sz23; exact rfl; (focus (kernel_rfl)); exact l14))
              all_goals (repeat' (((with_reducible apply AWt.step); exact rfl)))
              all_goals (first | ((with_reducible apply Step.storeG (n := 4)); exact rfl; exact rfl; exact (b13' _); exact rfl; exact sz23; exact rfl; (focus (kernel_rfl)); exact l13) | ((with_reducible apply Step.storeG (n := 4)); exact rfl; exact rfl; exact (b14' _); exact rfl; exact sz23; exact rfl; (focus (kernel_rfl)); exact l14))
              all_goals (repeat' (first | ((with_reducible apply Then.n)) | ((with_reducible apply AWt.done)) | ((with_reducible apply InBlk.n))))
              all_goals first
                | exact ⟨set_pre (set_pre hMN2 g13) g14, (rd_set2 (Ne.symm n34) hh13 hh14 rfl rfl).1, (rd_set2 (Ne.symm n34) hh13 hh14 rfl rfl).2, (by repeat (first | exact trivial | (refine And.intro rfl ?_)))⟩
                | exact ⟨set_pre (set_pre hMN2 g14) g13, (rd_set2 n34 hh14 hh13 rfl rfl).2, (rd_set2 n34 hh14 hh13 rfl rfl).1, (by repeat (first | exact trivial | (refine And.intro rfl ?_)))⟩
          rintro t' M3 ⟨hN3, rl, rh, hsl⟩
          refine AW.weak (fr_all hsl) ?_
          have rl' : ∀ T, RdL (M3 ++ T) a13 0 (r.lo d i).rc.cells := fun T => rl.old _
          have hml3 : m.length ≤ M3.length := by obtain ⟨N', e⟩ := hN3; rw [e, List.length_append]; omega
          have hS3 : Strs (M3 ++ []) sv B := by rw [List.append_nil]; obtain ⟨N', e⟩ := hN3; rw [e]; exact hS.old _
          have hK3 : Kds (M3 ++ []) kv K := by rw [List.append_nil]; obtain ⟨N', e⟩ := hN3; rw [e]; exact hKd.old _
          have hm3 : ∃ N, M3 ++ [] = m0 ++ N := by rw [List.append_nil]; obtain ⟨N', e⟩ := hN3; obtain ⟨N0, e0⟩ := hm0; exact ⟨_, by rw [e, e0, List.append_assoc]⟩
          clear hsl z0' z1' z2' q2 q3 y7 b13 b14 hml hMN2
          refine AW.rebase ?_
          have i1 := i1 hm3 hS3 hK3 htl (by omega)
          generalize hx1 : rdM B K f (r.lo d i) ps = x1 at *
          generalize (r.lo d i).rc = g1 at *
          generalize hhi : (r.hi d i).rc = g2 at *
          (repeat (first | (with_reducible refine AWo.cons ?_) | ((with_reducible refine Step.id ?_); first | ((with_reducible apply Step.move); exact rfl; exact rfl) | ((with_reducible apply Step.loadL (n := 4)); exact rfl; (focus (decide +kernel)); (focus (decide +kernel)); exact rfl; (focus (exact RdL.old _ (by assumption))); exact rfl; exact rfl)) | ((with_reducible apply AW.seq)) | ((with_reducible apply AW.regL))))
          ((with_reducible apply Step.callX fit); exact rfl; exact Tryd.func90; exact rfl; exact rfl; exact i1)
          rintro _ M4 ⟨N4, hN4⟩ hR1
          have rh4 : ∀ T, RdL (M4 ++ T) a14 0 g2.cells := fun T => by rw [hN4]; exact ((rh.old _).old _).old _
          have hpre4 : ∃ N, M4 = m ++ N := by obtain ⟨N', e⟩ := hN3; exact ⟨_, by rw [hN4, List.append_nil, e, List.append_assoc]⟩
          have hS4 : Strs (M4 ++ []) sv B := by rw [List.append_nil, hN4]; exact hS3.old _
          have hK4 : Kds (M4 ++ []) kv K := by rw [List.append_nil, hN4]; exact hK3.old _
          have hb4 : m.length ≤ (M3 ++ []).length := by rw [List.append_nil]; exact hml3
          have hl4 : (M3 ++ []).length ≤ M4.length := by rw [hN4]; simp
          have hm4 : ∃ N, M4 ++ [] = m0 ++ N := by rw [List.append_nil, hN4]; exact pre_app hm3 _
          clear hS3 hK3 hN4 N4 rl' rl rh i1
          cases x1 with
          | none =>
            obtain ⟨u, q, l, rfl, hpp, hll⟩ := hR1
            (repeat (first | (with_reducible refine AWo.cons ?_) | ((with_reducible refine Step.id ?_); first | ((with_reducible apply Step.move); exact rfl; exact rfl) | ((with_reducible apply Step.assign); exact rfl; exact rfl) | ((with_reducible apply Step.not); exact rfl; exact rfl) | ((with_reducible apply Step.extract); exact rfl; exact rfl; exact rfl)) | (with_reducible refine AWo.nil ?_) | ((with_reducible apply AW.seq)) | ((with_reducible apply Then.n)) | ((with_reducible apply AW.regL)) | ((with_reducible apply AW.condT); exact rfl; (focus (rfl)))))
            (refine AW.ret ?_; (repeat (first | refine Then.r ?_ | refine InBlk.r ?_)))
            obtain ⟨N, hN⟩ := hpre4
            exact ⟨_, rfl, N, by rw [List.append_nil]; exact hN, _, _, [], rfl, PP.nil, by simp⟩
          | some x1 =>
            obtain ⟨l1, p1⟩ := x1
            obtain ⟨u1, q1, rfl, hpp1, hq1⟩ := hR1
            have hl1 := rdM_len f hx1
            have i2 := i2 hm4 hS4 hK4 hq1 (by have := hl1.2; omega)
            dsimp only
            generalize hx2 : rdM B K f (r.hi d i) p1 = x2 at *
            clear hS4 hK4 hq1 ih hhi
            (repeat (first | (with_reducible refine AWo.cons ?_) | ((with_reducible refine Step.id ?_); first | ((with_reducible apply Step.move); exact rfl; exact rfl) | ((with_reducible apply Step.assign); exact rfl; exact rfl) | ((with_reducible apply Step.loadL (n := 4)); exact rfl; (focus (decide +kernel)); (focus (decide +kernel)); exact rfl; (focus (exact rh4 _)); exact rfl; exact rfl) | ((with_reducible apply Step.not); exact rfl; exact rfl) | ((with_reducible apply Step.extract); exact rfl; exact rfl; exact rfl)) | (with_reducible refine AWo.nil ?_) | ((with_reducible apply AW.seq)) | ((with_reducible apply Then.n)) | ((with_reducible apply AW.regL)) | ((with_reducible apply AW.skip)) | ((with_reducible apply AW.condF); exact rfl; (focus (rfl)))))
            ((with_reducible apply Step.callX fit); exact rfl; exact Tryd.func90; exact rfl; exact rfl; exact i2)
            rintro _ M5 ⟨N5, hN5⟩ hR2
            have hpre5 : ∃ N, M5 = m ++ N := by obtain ⟨N', e⟩ := hpre4; exact ⟨_, by rw [hN5, List.append_nil, e, List.append_assoc]⟩
            have hpp1' : PP (M5 ++ []) m.length u1 l1 := by rw [List.append_nil, hN5]; exact ((Row.low hpp1 hb4).old _).old _
            have hl5 : m.length ≤ M5.length := by obtain ⟨N', e⟩ := hpre5; rw [e, List.length_append]; omega
            have hM5 : 0 < (M5 ++ []).length := by
              obtain ⟨A1, O1, _, la1, _⟩ := id hS
              rw [List.append_nil]; omega
            clear i2 hN5 rh4
            cases x2 with
            | none =>
              obtain ⟨u2, q2, l2, rfl, hpp2, hll2⟩ := hR2
              obtain ⟨A2, sl2, _, rd2⟩ := Row.sl (hpp2.old []) hM5
              (repeat (first | (with_reducible refine AWo.cons ?_) | ((with_reducible refine Step.id ?_); first | ((with_reducible apply Step.move); exact rfl; exact rfl) | ((with_reducible apply Step.assign); exact rfl; exact rfl) | ((with_reducible apply Step.extract); exact rfl; exact rfl; exact rfl)) | (with_reducible refine AWo.nil ?_) | ((with_reducible apply AW.seq)) | ((with_reducible apply Then.n)) | ((with_reducible apply AW.regL))))
              ((with_reducible apply Step.appRow (n := l1.length) (xl := l2.length)); exact rfl; exact rfl; exact hpp1'; exact sl2; exact rd2; exact el77; exact un77; exact (plc_len _); exact (plc_one _); exact rfl; (focus (omega)); exact rfl; (focus (rw [List.append_nil]; exact hl5)))
              intro u' M6 hrow hlen6 hkeep
              (repeat (first | (with_reducible refine AWo.cons ?_) | ((with_reducible refine Step.id ?_); first | ((with_reducible apply Step.move); exact rfl; exact rfl) | ((with_reducible apply Step.assign); exact rfl; exact rfl)) | (with_reducible refine AWo.nil ?_) | ((with_reducible apply Then.n))))
              (refine AW.ret ?_; (repeat (first | refine Then.r ?_ | refine InBlk.r ?_)))
              obtain ⟨N, hN⟩ := pre_keep (by rw [List.append_nil]; exact hpre5) hlen6 fun j hj => hkeep j (by rw [List.append_nil]; omega) (NotOf.row hpp1' (by omega))
              exact ⟨_, rfl, N, hN, _, _, l1 ++ l2, rfl, by unfold PP; rw [plc_app, List.length_append]; exact hrow, by simp; omega⟩
            | some x2 =>
              obtain ⟨l2, p2⟩ := x2
              obtain ⟨u2, q2, rfl, hpp2, hq2⟩ := hR2
              have hl2 := rdM_len f hx2
              obtain ⟨A2, sl2, _, rd2⟩ := Row.sl (hpp2.old []) hM5
              (repeat (first | (with_reducible refine AWo.cons ?_) | ((with_reducible refine Step.id ?_); first | ((with_reducible apply Step.move); exact rfl; exact rfl) | ((with_reducible apply Step.assign); exact rfl; exact rfl) | ((with_reducible apply Step.extract); exact rfl; exact rfl; exact rfl)) | (with_reducible refine AWo.nil ?_) | ((with_reducible apply AW.seq)) | ((with_reducible apply Then.n)) | ((with_reducible apply AW.regL))))
              ((with_reducible apply Step.appRow (n := l1.length) (xl := l2.length)); exact rfl; exact rfl; exact hpp1'; exact sl2; exact rd2; exact el77; exact un77; exact (plc_len _); exact (plc_one _); exact rfl; (focus (omega)); exact rfl; (focus (rw [List.append_nil]; exact hl5)))
              intro u' M6 hrow hlen6 hkeep
              (repeat (first | (with_reducible refine AWo.cons ?_) | ((with_reducible refine Step.id ?_); first | ((with_reducible apply Step.move); exact rfl; exact rfl) | ((with_reducible apply Step.assign); exact rfl; exact rfl)) | (with_reducible refine AWo.nil ?_) | ((with_reducible apply Then.n))))
              (refine AW.ret ?_; (repeat (first | refine Then.r ?_ | refine InBlk.r ?_)))
              obtain ⟨N, hN⟩ := pre_keep (by rw [List.append_nil]; exact hpre5) hlen6 fun j hj => hkeep j (by rw [List.append_nil]; omega) (NotOf.row hpp1' (by omega))
              exact ⟨_, rfl, N, hN, _, _, rfl, by unfold PP; rw [plc_app, List.length_append]; exact hrow, hq2⟩
        · rw [rd_nocut d rfl hbad]
          have hbd : nt = true ∨ narg < 1 ∨ (r.len d : Int) ≤ narg := by
            cases nt with
            | true => exact .inl rfl
            | false =>
              right
              rcases Int.lt_or_le narg 1 with h | h
              · exact .inl h
              · right
                rcases Int.lt_or_le narg (r.len d) with h' | h'
                · exact absurd ⟨rfl, h, h'⟩ hbad
                · exact h'
          have fin : ∀ N', M1 ++ [] = m ++ N' → More (RRd m0 m.length (((opI d, narg, nt) : Nd) :: ps).length none) m (.tuple #[.slice none 0 0, .slice none 0 0, .bool false]) (M1 ++ []) := fun N' e => ⟨N', e, _, _, [], rfl, PP.nil, by simp⟩
          have hMN3 : ∃ N', M1 ++ [] = m ++ N' := by rw [List.append_nil]; exact hMN2
          obtain ⟨N', eN⟩ := hMN3
          clear ih hS hKd htl hP hm0
          by_cases e1 : narg < 1
          · cases d with
            | true =>
              (repeat (first | (with_reducible refine AWo.cons ?_) | ((with_reducible refine Step.id ?_); first | ((with_reducible apply Step.gdT); exact rfl; exact rfl; (focus (rfl))) | ((with_reducible apply Step.gdF); exact rfl; exact rfl; (focus (first | rfl | (simp only [decide_eq_true_eq, decide_eq_false_iff_not, Bool.not_eq_true', Bool.not_eq_false', Bool.not_true, Bool.not_false]; first | assumption | omega)))) | ((with_reducible apply Step.move); exact rfl; exact rfl) | ((with_reducible apply Step.assign); exact rfl; exact rfl) | ((with_reducible apply Step.load); exact rfl; (focus (decide +kernel)); exact rfl; (focus (first | exact z0' _ | exact z1' _))) | ((with_reducible apply Step.field0); exact rfl; (focus (decide +kernel)); exact rfl) | ((with_reducible apply Step.field (k := 1)); exact rfl; (focus (decide +kernel)); exact rfl) | ((with_reducible apply Step.geq); exact rfl; exact rfl; exact rfl) | ((with_reducible apply Step.eql); exact rfl; exact rfl; exact rfl) | ((with_reducible apply Step.pickT); exact rfl; exact rfl; exact rfl; exact rfl; (focus (rfl))) | ((with_reducible apply Step.pickF); exact rfl; exact rfl; exact rfl; exact rfl; (focus (first | rfl | (simp only [decide_eq_true_eq, decide_eq_false_iff_not, Bool.not_eq_true', Bool.not_eq_false', Bool.not_true, Bool.not_false]; first | assumption | omega))))) | (with_reducible refine AWo.nil ?_) | ((with_reducible apply AW.seq)) | ((with_reducible apply Then.n)) | ((with_reducible apply AW.regL)) | ((with_reducible apply AW.block)) | ((with_reducible apply AW.condF); exact rfl; (focus (rfl)))))
              (refine AW.ret ?_; (repeat (first | refine Then.r ?_ | refine InBlk.r ?_)))
              exact ⟨_, rfl, fin _ eN⟩
            | false =>
              (repeat (first | (with_reducible refine AWo.cons ?_) | ((with_reducible refine Step.id ?_); first | ((with_reducible apply Step.gdT); exact rfl; exact rfl; (focus (rfl))) | ((with_reducible apply Step.gdF); exact rfl; exact rfl; (focus (first | rfl | (simp only [decide_eq_true_eq, decide_eq_false_iff_not, Bool.not_eq_true', Bool.not_eq_false', Bool.not_true, Bool.not_false]; first | assumption | omega)))) | ((with_reducible apply Step.move); exact rfl; exact rfl) | ((with_reducible apply Step.assign); exact rfl; exact rfl) | ((with_reducible apply Step.load); exact rfl; (focus (decide +kernel)); exact rfl; (focus (first | exact z0' _ | exact z1' _))) | ((with_reducible apply Step.field0); exact rfl; (focus (decide +kernel)); exact rfl) | ((with_reducible apply Step.field (k := 1)); exact rfl; (focus (decide +kernel)); exact rfl) | ((with_reducible apply Step.geq); exact rfl; exact rfl; exact rfl) | ((with_reducible apply Step.eql); exact rfl; exact rfl; exact rfl) | ((with_reducible apply Step.pickT); exact rfl; exact rfl; exact rfl; exact rfl; (focus (rfl))) | ((with_reducible apply Step.pickF); exact rfl; exact rfl; exact rfl; exact rfl; (focus (first | rfl | (simp only [decide_eq_true_eq, decide_eq_false_iff_not, Bool.not_eq_true', Bool.not_eq_false', Bool.not_true, Bool.not_false]; first | assumption | omega))))) | (with_reducible refine AWo.nil ?_) | ((with_reducible apply AW.seq)) | ((with_reducible apply Then.n)) | ((with_reducible apply AW.regL)) | ((with_reducible apply AW.block)) | ((with_reducible apply AW.condF); exact rfl; (focus (rfl)))))
              (refine AW.ret ?_; (repeat (first | refine Then.r ?_ | refine InBlk.r ?_)))
              exact ⟨_, rfl, fin _ eN⟩
          · by_cases e2 : (r.len d : Int) ≤ narg
            · cases d with
              | true =>
                have e3 : ((r.a : Nat) : Int) ≤ narg := e2
                (repeat (first | (with_reducible refine AWo.cons ?_) | ((with_reducible refine Step.id ?_); first | ((with_reducible apply Step.gdT); exact rfl; exact rfl; (focus (first | rfl | (simp only [decide_eq_true_eq, decide_eq_false_iff_not, Bool.not_eq_true', Bool.not_eq_false', Bool.not_true, Bool.not_false]; first | assumption | omega)))) | ((with_reducible apply Step.gdF); exact rfl; exact rfl; (focus (first | rfl | (simp only [decide_eq_true_eq, decide_eq_false_iff_not, Bool.not_eq_true', Bool.not_eq_false', Bool.not_true, Bool.not_false]; first | assumption | omega)))) | ((with_reducible apply Step.move); exact rfl; exact rfl) | ((with_reducible apply Step.assign); exact rfl; exact rfl) | ((with_reducible apply Step.load); exact rfl; (focus (decide +kernel)); exact rfl; (focus (first | exact z0' _ | exact z1' _ | exact q2 _))) | ((with_reducible apply Step.field0); exact rfl; (focus (decide +kernel)); exact rfl) | ((with_reducible apply Step.field (k := 1)); exact rfl; (focus (decide +kernel)); exact rfl) | ((with_reducible apply Step.field (k := 2)); exact rfl; (focus (decide +kernel)); exact rfl) | ((with_reducible apply Step.lss); exact rfl; exact rfl; exact rfl) | ((with_reducible apply Step.geq); exact rfl; exact rfl; exact rfl) | ((with_reducible apply Step.eql); exact rfl; exact rfl; exact rfl) | ((with_reducible apply Step.pickT); exact rfl; exact rfl; exact rfl; exact rfl; (focus (first | rfl | (simp only [decide_eq_true_eq, decide_eq_false_iff_not, Bool.not_eq_true', Bool.not_eq_false', Bool.not_true, Bool.not_false]; first | assumption | omega)))) | ((with_reducible apply Step.pickF); exact rfl; exact rfl; exact rfl; exact rfl; (focus (first | rfl | (simp only [decide_eq_true_eq, decide_eq_false_iff_not, Bool.not_eq_true', Bool.not_eq_false', Bool.not_true, Bool.not_false]; first | assumption | omega))))) | (with_reducible refine AWo.nil ?_) | ((with_reducible apply AW.seq)) | ((with_reducible apply Then.n)) | ((with_reducible apply AW.regL)) | ((with_reducible apply AW.block)) | ((with_reducible apply AW.condF); exact rfl; (focus (rfl)))))
                (refine AW.ret ?_; (repeat (first | refine Then.r ?_ | refine InBlk.r ?_)))
                exact ⟨_, rfl, fin _ eN⟩
              | false =>
                have e3 : ((r.b : Nat) : Int) ≤ narg := e2
                (repeat (first | (with_reducible refine AWo.cons ?_) | ((with_reducible refine Step.id ?_); first | ((with_reducible apply Step.gdT); exact rfl; exact rfl; (focus (first | rfl | (simp only [decide_eq_true_eq, decide_eq_false_iff_not, Bool.not_eq_true', Bool.not_eq_false', Bool.not_true, Bool.not_false]; first | assumption | omega)))) | ((with_reducible apply Step.gdF); exact rfl; exact rfl; (focus (first | rfl | (simp only [decide_eq_true_eq, decide_eq_false_iff_not, Bool.not_eq_true', Bool.not_eq_false', Bool.not_true, Bool.not_false]; first | assumption | omega)))) | ((with_reducible apply Step.move); exact rfl; exact rfl) | ((with_reducible apply Step.assign); exact rfl; exact rfl) | ((with_reducible apply Step.load); exact rfl; (focus (decide +kernel)); exact rfl; (focus (first | exact z0' _ | exact z1' _ | exact q3 _))) | ((with_reducible apply Step.field0); exact rfl; (focus (decide +kernel)); exact rfl) | ((with_reducible apply Step.field (k := 1)); exact rfl; (focus (decide +kernel)); exact rfl) | ((with_reducible apply Step.field (k := 3)); exact rfl; (focus (decide +kernel)); exact rfl) | ((with_reducible apply Step.lss); exact rfl; exact rfl; exact rfl) | ((with_reducible apply Step.geq); exact rfl; exact rfl; exact rfl) | ((with_reducible apply Step.eql); exact rfl; exact rfl; exact rfl) | ((with_reducible apply Step.pickT); exact rfl; exact rfl; exact rfl; exact rfl; (focus (first | rfl | (simp only [decide_eq_true_eq, decide_eq_false_iff_not, Bool.not_eq_true', Bool.not_eq_false', Bool.not_true, Bool.not_false]; first | assumption | omega)))) | ((with_reducible apply Step.pickF); exact rfl; exact rfl; exact rfl; exact rfl; (focus (first | rfl | (simp only [decide_eq_true_eq, decide_eq_false_iff_not, Bool.not_eq_true', Bool.not_eq_false', Bool.not_true, Bool.not_false]; first | assumption | omega))))) | (with_reducible refine AWo.nil ?_) | ((with_reducible apply AW.seq)) | ((with_reducible apply Then.n)) | ((with_reducible apply AW.regL)) | ((with_reducible apply AW.block)) | ((with_reducible apply AW.condF); exact rfl; (focus (rfl)))))
                (refine AW.ret ?_; (repeat (first | refine Then.r ?_ | refine InBlk.r ?_)))
                exact ⟨_, rfl, fin _ eN⟩
            · obtain rfl : nt = true := by
                rcases hbd with h | h | h
                · exact h
                · exact absurd h e1
                · exact absurd h e2
              cases d with
              | true =>
                have e3 : narg < ((r.a : Nat) : Int) := by have : ¬ ((r.a : Nat) : Int) ≤ narg := e2; omega
                (repeat (first | (with_reducible refine AWo.cons ?_) | ((with_reducible refine Step.id ?_); first | ((with_reducible apply Step.gdT); exact rfl; exact rfl; (focus (first | rfl | (simp only [decide_eq_true_eq, decide_eq_false_iff_not, Bool.not_eq_true', Bool.not_eq_false', Bool.not_true, Bool.not_false]; first | assumption | omega)))) | ((with_reducible apply Step.gdF); exact rfl; exact rfl; (focus (rfl))) | ((with_reducible apply Step.move); exact rfl; exact rfl) | ((with_reducible apply Step.assign); exact rfl; exact rfl) | ((with_reducible apply Step.load); exact rfl; (focus (decide +kernel)); exact rfl; (focus (first | exact z0' _ | exact z1' _ | exact z2' _ | exact q2 _))) | ((with_reducible apply Step.field0); exact rfl; (focus (decide +kernel)); exact rfl) | ((with_reducible apply Step.field (k := 1)); exact rfl; (focus (decide +kernel)); exact rfl) | ((with_reducible apply Step.field (k := 2)); exact rfl; (focus (decide +kernel)); exact rfl) | ((with_reducible apply Step.lss); exact rfl; exact rfl; exact rfl) | ((with_reducible apply Step.geq); exact rfl; exact rfl; exact rfl) | ((with_reducible apply Step.eql); exact rfl; exact rfl; exact rfl) | ((with_reducible apply Step.not); exact rfl; exact rfl) | ((with_reducible apply Step.pickT); exact rfl; exact rfl; exact rfl; exact rfl; (focus (first | rfl | (simp only [decide_eq_true_eq, decide_eq_false_iff_not, Bool.not_eq_true', Bool.not_eq_false', Bool.not_true, Bool.not_false]; first | assumption | omega)))) | ((with_reducible apply Step.pickF); exact rfl; exact rfl; exact rfl; exact rfl; (focus (rfl)))) | (with_reducible refine AWo.nil ?_) | ((with_reducible apply AW.seq)) | ((with_reducible apply Then.n)) | ((with_reducible apply AW.regL)) | ((with_reducible apply AW.block)) | ((with_reducible apply AW.condF); exact rfl; (focus (rfl)))))
                (refine AW.ret ?_; (repeat (first | refine Then.r ?_ | refine InBlk.r ?_)))
                exact ⟨_, rfl, fin _ eN⟩
              | false =>
                have e3 : narg < ((r.b : Nat) : Int) := by have : ¬ ((r.b : Nat) : Int) ≤ narg := e2; omega
                (repeat (first | (with_reducible refine AWo.cons ?_) | ((with_reducible refine Step.id ?_); first | ((with_reducible apply Step.gdT); exact rfl; exact rfl; (focus (first | rfl | (simp only [decide_eq_true_eq, decide_eq_false_iff_not, Bool.not_eq_true', Bool.not_eq_false', Bool.not_true, Bool.not_false]; first | assumption | omega)))) | ((with_reducible apply Step.gdF); exact rfl; exact rfl; (focus (rfl))) | ((with_reducible apply Step.move); exact rfl; exact rfl) | ((with_reducible apply Step.assign); exact rfl; exact rfl) | ((with_reducible apply Step.load); exact rfl; (focus (decide +kernel)); exact rfl; (focus (first | exact z0' _ | exact z1' _ | exact z2' _ | exact q3 _))) | ((with_reducible apply Step.field0); exact rfl; (focus (decide +kernel)); exact rfl) | ((with_reducible apply Step.field (k := 1)); exact rfl; (focus (decide +kernel)); exact rfl) | ((with_reducible apply Step.field (k := 2)); exact rfl; (focus (decide +kernel)); exact rfl) | ((with_reducible apply Step.field (k := 3)); exact rfl; (focus (decide +kernel)); exact rfl) | ((with_reducible apply Step.lss); exact rfl; exact rfl; exact rfl) | ((with_reducible apply Step.geq); exact rfl; exact rfl; exact rfl) | ((with_reducible apply Step.eql); exact rfl; exact rfl; exact rfl) | ((with_reducible apply Step.not); exact rfl; exact rfl) | ((with_reducible apply Step.pickT); exact rfl; exact rfl; exact rfl; exact rfl; (focus (first | rfl | (simp only [decide_eq_true_eq, decide_eq_false_iff_not, Bool.not_eq_true', Bool.not_eq_false', Bool.not_true, Bool.not_false]; first | assumption | omega)))) | ((with_reducible apply Step.pickF); exact rfl; exact rfl; exact rfl; exact rfl; (focus (rfl)))) | (with_reducible refine AWo.nil ?_) | ((with_reducible apply AW.seq)) | ((with_reducible apply Then.n)) | ((with_reducible apply AW.regL)) | ((with_reducible apply AW.block)) | ((with_reducible apply AW.condF); exact rfl; (focus (rfl)))))
                (refine AW.ret ?_; (repeat (first | refine Then.r ?_ | refine InBlk.r ?_)))
                exact ⟨_, rfl, fin _ eN⟩
      · have n2 : ¬ nop = 2 := fun h => o2 (.inl h)
        have n3 : ¬ nop = 3 := fun h => o2 (.inr h)
        rw [rd_other o0 o1 n2 n3]
        (repeat (first | (with_reducible refine AWo.cons ?_) | ((with_reducible refine Step.id ?_); first | ((with_reducible apply Step.gdF); exact rfl; exact rfl; (focus (first | rfl | (simp only [decide_eq_true_eq, decide_eq_false_iff_not, Bool.not_eq_true', Bool.not_eq_false', Bool.not_true, Bool.not_false]; first | assumption | omega)))) | ((with_reducible apply Step.move); exact rfl; exact rfl) | ((with_reducible apply Step.assign); exact rfl; exact rfl) | ((with_reducible apply Step.load); exact rfl; (focus (decide +kernel)); exact rfl; (focus (exact z0' _))) | ((with_reducible apply Step.field0); exact rfl; (focus (decide +kernel)); exact rfl) | ((with_reducible apply Step.eql); exact rfl; exact rfl; exact rfl) | ((with_reducible apply Step.pickF); exact rfl; exact rfl; exact rfl; exact rfl; (focus (first | rfl | (simp only [decide_eq_true_eq, decide_eq_false_iff_not, Bool.not_eq_true', Bool.not_eq_false', Bool.not_true, Bool.not_false]; first | assumption | omega))))) | (with_reducible refine AWo.nil ?_) | ((with_reducible apply AW.seq)) | ((with_reducible apply Then.n)) | ((with_reducible apply AW.regL)) | ((with_reducible apply AW.block)) | ((with_reducible apply AW.condF); exact rfl; (focus (first | rfl | (simp only [decide_eq_true_eq, decide_eq_false_iff_not, Bool.not_eq_true', Bool.not_eq_false', Bool.not_true, Bool.not_false]; first | assumption | omega))))))
        (refine AW.ret ?_; (repeat (first | refine Then.r ?_ | refine InBlk.r ?_)))
        obtain ⟨N, hN⟩ := hMN2
        exact ⟨_, rfl, N, by rw [List.append_nil]; exact hN, _, _, [], rfl, PP.nil, by simp⟩
end Go.Proofs.YtibhgdglbillaaaDoor.Abs
namespace Go.Proofs.YtibhgdglbillaaaDoor.Abs
set_option linter.unusedSimpArgs false
set_option linter.unusedVariables false
open Go.RowKit
open Go.Proofs.YtibhgdglbillaaaDoor.Sim
open Go.Proofs
theorem rdg_good {B : Brd} {K : List Kd} {ps : List Nd} (h : (rdgM B K ps).2 = 0) : goodB B K = true := by
  unfold rdgM at h
  split at h
  · assumption
  · cases h
theorem ze82 : zeroB Tryd.prog 82 = some #[.int .i64 0, .int .i64 0, .int .i64 0, .int .i64 0, .int .i64 0, .bool false] := by kernel_rfl
/-- How many pieces there are of each kind; nothing if the plan is none. -/
def cntM (n : Nat) (x : List Plc × Int) : List Int := if x.2 = 0 then cntT n x.1 x.1.length else []
theorem good_kl {B : Brd} {K : List Kd} (hg : goodB B K = true) : K.length ≤ 12 := by
  simp only [goodB, kindsB, Bool.and_eq_true, decide_eq_true_eq] at hg
  exact hg.2.1
set_option maxHeartbeats 8000000 in
set_option maxRecDepth 100000 in
theorem RRead_ok {m : AM} {sv kv v : Value} {B : Brd} {K : List Kd} {ps : List Nd} (hs : Strs m sv B) (hk : Kds m kv K) (hv : PN m v ps) (hlen : ps.length ≤ 1000000) :
    ACall Tryd.prog 46 #[sv, kv, v] m (More (fun M w => ∃ u, w = .tuple #[u, .int .i64 (worthL K (rdgM B K ps).1), .int .i64 (rdgM B K ps).2] ∧ Pcs M u (rdgM B K ps).1) m) := by
  have hM : 0 < m.length := by obtain ⟨A1, O1, sl1, la1, rd1⟩ := hs; omega
  have hG := fun T => RGood_ok (hs.old T) (hk.old T)
  cases hg : goodB B K with
  | false =>
    have e : rdgM B K ps = ([], 2) := by unfold rdgM; rw [if_neg (by simp [hg])]
    rw [e]
    rw [hg] at hG
    refine ACall.start Tryd.func46 rfl rfl ?_
    (repeat (first | (with_reducible refine AWo.cons ?_) | ((with_reducible refine Step.id ?_); first | ((with_reducible apply Step.move); exact rfl; exact rfl) | ((with_reducible apply Step.assign); exact rfl; exact rfl) | ((with_reducible apply Step.not); exact rfl; exact rfl) | ((with_reducible apply Step.callR fit); exact rfl; exact Tryd.func24; exact rfl; exact rfl; exact (hG _))) | (with_reducible refine AWo.nil ?_) | ((with_reducible apply AW.seq)) | ((with_reducible apply Then.n)) | ((with_reducible apply AW.regL)) | ((with_reducible apply AW.condT); exact rfl; (focus (rfl)))))
    (refine AW.ret ?_; (repeat (first | refine Then.r ?_ | refine InBlk.r ?_)))
    exact ⟨_, rfl, [], rfl, _, rfl, by rw [List.append_nil]; exact Pcs.nil hM⟩
  | true =>
    rw [hg] at hG
    have hgb : boardB B = true := by simp only [goodB, Bool.and_eq_true] at hg; exact hg.1
    have hin := good_in hgb
    have hb0 : 0 < B.length := hin.1
    have hok : (wholeR B).ok (bw B) (bh B) := by
      simp only [R4.ok, wholeR]
      omega
    have hsz : (wholeR B).size ≤ 32 := by
      simp only [R4.size, wholeR]
      omega
    have hR := rread_ok hg 32 (Nat.le_refl _) hok hsz (m0 := m) (m := m ++ []) ⟨[], rfl⟩ (hs.old _) (hk.old _) hv hlen
    change ACall Tryd.prog 90 #[_, _, _, .agg #[.int .i64 0, .int .i64 0, .int .i64 ((rowOf B 0).size : Nat), .int .i64 (B.length : Nat)]] (m ++ []) _ at hR
    obtain ⟨hl1, hl2, hl3⟩ := rdgM_all (B := B) (K := K) (ps := ps)
    have hdef : rdgM B K ps = (match rdM B K 32 (wholeR B) ps with | some (l, []) => (l, 0) | _ => ([], 6)) := by
      unfold rdgM
      rw [if_pos hg]
      all_goals (generalize rdM B K 32 (wholeR B) ps = x; rcases x with _ | ⟨l, _ | ⟨y, ps'⟩⟩ <;> rfl)
    obtain ⟨A1, O1, sl1, la1, rd1⟩ := id hs
    have r0 := rd1 0 hb0
    obtain ⟨q1, c1, rfl⟩ := sl1.shape
    obtain ⟨A2, O2, sl2, la2, rd2⟩ := id hk
    obtain ⟨q2, c2, rfl⟩ := sl2.shape
    refine ACall.start Tryd.func46 rfl rfl ?_
    (repeat (first | (with_reducible refine AWo.cons ?_) | ((with_reducible refine Step.id ?_); first | ((with_reducible apply Step.move); exact rfl; exact rfl) | ((with_reducible apply Step.assign); exact rfl; exact rfl) | ((with_reducible apply Step.load); exact rfl; (focus (decide +kernel)); exact rfl; (focus (exact Rd.old _ (by assumption)))) | ((with_reducible apply Step.ix1); exact rfl; (focus (assumption)); exact rfl; (focus (decide +kernel)); exact rfl; (focus (omega))) | ((with_reducible apply Step.lenS); exact rfl; exact un9; exact rfl) | ((with_reducible apply Step.len); exact rfl; (focus (assumption)); (focus (decide +kernel)); exact rfl) | ((with_reducible apply Step.not); exact rfl; exact rfl) | ((with_reducible apply Step.callR fit); exact rfl; exact Tryd.func24; exact rfl; exact rfl; exact (hG _)) | ((with_reducible apply Step.build); exact rfl; exact bl23w; exact rfl)) | (with_reducible refine AWo.nil ?_) | ((with_reducible apply AW.seq)) | ((with_reducible apply Then.n)) | ((with_reducible apply AW.regL)) | ((with_reducible apply AW.skip)) | ((with_reducible apply AW.condF); exact rfl; (focus (rfl)))))
    ((with_reducible apply Step.callX fit); exact rfl; exact Tryd.func90; exact rfl; exact rfl; exact hR)
    rintro _ M1 ⟨N1, hN1⟩ hR1
    have hm1 : ∃ N, M1 = m ++ N := ⟨N1, by rw [hN1, List.append_nil]⟩
    have hml : 0 < M1.length := by obtain ⟨N, e⟩ := hm1; rw [e, List.length_append]; omega
    have hk1 : Kds M1 (.slice q2 K.length c2) K := by obtain ⟨N, e⟩ := hm1; rw [e]; exact hk.old _
    clear hR hG hN1
    generalize rdM B K 32 (wholeR B) ps = x at *
    have bad : rdgM B K ps = ([], 6) → ∀ M', (∃ N, M' = M1 ++ N) → More (fun M w => ∃ u, w = .tuple #[u, .int .i64 (worthL K (rdgM B K ps).1), .int .i64 (rdgM B K ps).2] ∧ Pcs M u (rdgM B K ps).1) m (.tuple #[.slice none 0 0, .int .i64 0, .int .i64 6]) M' := fun e M' ⟨N', hN'⟩ => by
      obtain ⟨N, hN⟩ := hm1
      rw [e]
      exact ⟨N ++ N', by rw [hN', hN, List.append_assoc], _, rfl, Pcs.nil (by rw [hN', List.length_append]; omega)⟩
    cases x with
    | none =>
      obtain ⟨u, q, l, rfl, _, _⟩ := hR1
      (repeat (first | (with_reducible refine AWo.cons ?_) | ((with_reducible refine Step.id ?_); first | ((with_reducible apply Step.gdF); exact rfl; exact rfl; (focus (rfl))) | ((with_reducible apply Step.move); exact rfl; exact rfl) | ((with_reducible apply Step.assign); exact rfl; exact rfl) | ((with_reducible apply Step.not); exact rfl; exact rfl) | ((with_reducible apply Step.extract); exact rfl; exact rfl; exact rfl) | ((with_reducible apply Step.pickT); exact rfl; exact rfl; exact rfl; exact rfl; (focus (rfl)))) | (with_reducible refine AWo.nil ?_) | ((with_reducible apply AW.seq)) | ((with_reducible apply Then.n)) | ((with_reducible apply AW.regL)) | ((with_reducible apply AW.condT); exact rfl; (focus (rfl)))))
      (refine AW.ret ?_; (repeat (first | refine Then.r ?_ | refine InBlk.r ?_)))
      exact ⟨_, rfl, bad hdef _ ⟨_, rfl⟩⟩
    | some x =>
      obtain ⟨l, ps'⟩ := x
      obtain ⟨u, q, rfl, hpp, hpn⟩ := hR1
      obtain ⟨a, o, sl, _⟩ := hpn
      cases ps' with
      | cons y ps' =>
        change Sl q a o (ps'.length + 1) at sl
        (repeat (first | (with_reducible refine AWo.cons ?_) | ((with_reducible refine Step.id ?_); first | ((with_reducible apply Step.gdT); exact rfl; exact rfl; (focus (rfl))) | ((with_reducible apply Step.move); exact rfl; exact rfl) | ((with_reducible apply Step.assign); exact rfl; exact rfl) | ((with_reducible apply Step.gtr); exact rfl; exact rfl; exact rfl) | ((with_reducible apply Step.len); exact rfl; (focus (assumption)); (focus (decide +kernel)); exact rfl) | ((with_reducible apply Step.not); exact rfl; exact rfl) | ((with_reducible apply Step.extract); exact rfl; exact rfl; exact rfl) | ((with_reducible apply Step.pickF); exact rfl; exact rfl; exact rfl; exact rfl; (focus (rfl)))) | (with_reducible refine AWo.nil ?_) | ((with_reducible apply AW.seq)) | ((with_reducible apply Then.n)) | ((with_reducible apply AW.regL)) | ((with_reducible apply AW.condT); exact rfl; (focus ((simp only [decide_eq_true_eq, decide_eq_false_iff_not, Bool.not_eq_true', Bool.not_eq_false', Bool.not_true, Bool.not_false]; first | assumption | omega))))))
        (refine AW.ret ?_; (repeat (first | refine Then.r ?_ | refine InBlk.r ?_)))
        exact ⟨_, rfl, bad hdef _ ⟨_, rfl⟩⟩
      | nil =>
        change Sl q a o 0 at sl
        have hpc := hpp.pcs hml
        simp only at hdef
        rw [hdef] at hl1 hl2 hl3 ⊢
        simp only at hl1 hl2 hl3 ⊢
        clear bad hdef
        (repeat (first | (with_reducible refine AWo.cons ?_) | ((with_reducible refine Step.id ?_); first | ((with_reducible apply Step.gdT); exact rfl; exact rfl; (focus (rfl))) | ((with_reducible apply Step.move); exact rfl; exact rfl) | ((with_reducible apply Step.assign); exact rfl; exact rfl) | ((with_reducible apply Step.gtr); exact rfl; exact rfl; exact rfl) | ((with_reducible apply Step.len); exact rfl; (focus (assumption)); (focus (decide +kernel)); exact rfl) | ((with_reducible apply Step.not); exact rfl; exact rfl) | ((with_reducible apply Step.extract); exact rfl; exact rfl; exact rfl) | ((with_reducible apply Step.pickF); exact rfl; exact rfl; exact rfl; exact rfl; (focus (rfl)))) | (with_reducible refine AWo.nil ?_) | ((fail_if_success (with_reducible refine AW.atR (id := 6) ?_)); ((with_reducible apply AW.seq))) | ((with_reducible apply Then.n)) | ((with_reducible apply AW.regL)) | ((with_reducible apply AW.skip)) | ((with_reducible apply AW.condF); exact rfl; (focus (rfl)))))
        rw [List.append_nil]
        refine AW.rebase ?_
        obtain ⟨A3, O3, sl3, la3, rd3⟩ := id hk1
        obtain ⟨A4, O4, sl4, la4, rd4⟩ := id hpc
        obtain ⟨q4, c4, rfl⟩ := sl4.shape
        have w1 : Low M1.length (.slice q2 K.length c2) := Low.of_sl sl3 la3
        have w2 : Low M1.length (.slice q4 l.length c4) := Low.of_sl sl4 la4
        (repeat (first | (with_reducible refine AWo.cons ?_) | ((with_reducible refine Step.id ?_); first | ((with_reducible apply Step.move); exact rfl; exact rfl) | ((with_reducible apply Step.assign); exact rfl; exact rfl) | ((with_reducible apply Step.len); exact rfl; (focus (assumption)); (focus (decide +kernel)); exact rfl)) | (with_reducible refine AWo.nil ?_) | ((with_reducible apply AW.seq)) | ((with_reducible apply Then.n)) | ((with_reducible apply AW.regL)) | ((with_reducible apply AW.block))))
        refine AW.loopT (fun n t L => ∃ i : Nat, n = l.length - i ∧ i ≤ l.length ∧ L = [] ∧
          t = [(1, .slice q2 K.length c2), (9, .slice q4 l.length c4), (12, .int .i64 (worthL K (l.take i))), (41, .slice q4 l.length c4), (42, .int .i64 (l.length : Nat)), (43, .int .i64 (i : Nat))])
          ⟨_, _, _, (Or.inl ⟨rfl, (by repeat (first | exact trivial | (refine And.intro rfl ?_)))⟩), 0, rfl, Nat.zero_le _, rfl, rfl⟩ ?_
        rintro n t L ⟨i, rfl, hi, rfl, rfl⟩
        rcases Nat.lt_or_ge i l.length with hlt | hge
        · have rp := rd4 i hlt
          have hmem : l.getD i default ∈ l := by rw [getD_in _ _ hlt]; exact List.getElem_mem hlt
          have hx := (hl3 _ hmem).1
          have hw := worthL_take K l hlt
          have hKb : kindsB K = true := by simp only [goodB, Bool.and_eq_true] at hg; exact hg.2
          have hwi := worthL_in hKb (l.take i) (fun y hy => (hl3 y (List.mem_of_mem_take hy)).1)
          have htk : (l.take i).length ≤ l.length := by rw [List.length_take]; omega
          have hkd := kdB_in (kinds_get hKb hx)
          have rk := (rd3 _ hx).at_ 3 rfl
          generalize worthL K (l.take i) = ws at *
          generalize l.getD i default = y at *
          obtain ⟨yk, yr, yt⟩ := y
          simp only at rk hx hkd
          generalize (K.getD yk default).worth = kw at *
          simp only [plc1, Rc.cells, List.cons_append, List.nil_append] at rp
          (repeat (first | (with_reducible refine AWo.cons ?_) | ((with_reducible refine Step.id ?_); first | ((with_reducible apply Step.move); exact rfl; exact rfl) | ((with_reducible apply Step.assign); exact rfl; exact rfl) | ((with_reducible apply Step.load); exact rfl; (focus (decide +kernel)); exact rfl; (focus (first | exact Rd.new rfl rfl | exact Rd.old _ (by assumption)))) | ((with_reducible apply Step.loadL (n := 6)); exact rfl; (focus (decide +kernel)); (focus (decide +kernel)); exact rfl; (focus (exact RdL.old _ (by assumption))); exact rfl; exact rfl) | ((with_reducible apply Step.ix (s := 5)); exact rfl; (focus (assumption)); exact rfl; (focus (decide +kernel)); exact rfl; (focus (omega))) | ((with_reducible apply Step.ix (s := 6)); exact rfl; (focus (assumption)); exact rfl; (focus (decide +kernel)); exact rfl; (focus (omega))) | ((with_reducible apply Step.field0); exact rfl; (focus (decide +kernel)); exact rfl) | ((with_reducible apply Step.field (k := 3)); exact rfl; (focus (decide +kernel)); exact rfl) | ((with_reducible apply Step.add); exact rfl; exact rfl; (focus (omega)); exact rfl) | ((with_reducible apply Step.lss); exact rfl; exact rfl; exact rfl) | ((with_reducible apply Step.alloc 0); exact rfl; exact ze82; exact rfl; (focus (first | (simp only [List.nil_append, List.cons_append, List.set_cons_zero, List.set_cons_succ, iv_set, bv_set, iv_rep, bv_rep]; done) | (simp only [List.nil_append, List.cons_append, List.set_cons_zero, List.set_cons_succ, iv_set, bv_set, iv_rep, bv_rep]; rfl) | rfl))) | ((with_reducible apply Step.storeA (k := 0) (n := 6)); exact rfl; exact rfl; exact rfl; exact rfl; (focus (decide +kernel)); exact rfl; (focus (kernel_rfl)); exact rfl; (focus (first | (simp only [List.nil_append, List.cons_append, List.set_cons_zero, List.set_cons_succ, iv_set, bv_set, iv_rep, bv_rep]; done) | (simp only [List.nil_append, List.cons_append, List.set_cons_zero, List.set_cons_succ, iv_set, bv_set, iv_rep, bv_rep]; rfl) | rfl)))) | (with_reducible refine AWo.nil ?_) | ((with_reducible apply AW.seq)) | ((with_reducible apply Then.n)) | ((with_reducible apply AW.regL)) | ((with_reducible apply AW.block)) | ((with_reducible apply InBlk.n)) | ((with_reducible apply AW.skip)) | ((with_reducible apply AW.condT); exact rfl; (focus ((simp only [decide_eq_true_eq, decide_eq_false_iff_not, Bool.not_eq_true', Bool.not_eq_false', Bool.not_true, Bool.not_false]; first | assumption | omega))))))
          exact ⟨_, [(1, .slice q2 K.length c2), (9, .slice q4 l.length c4), (12, .int .i64 (ws + kw)), (41, .slice q4 l.length c4), (42, .int .i64 (l.length : Nat)), (43, .int .i64 (i + 1 : Nat))], [], by omega, (Back.trim rfl rfl (by repeat (exact CellsOk.nil)) (by repeat (first | exact trivial | (refine And.intro ⟨rfl, by (first | exact Low.rid (by assumption) (by simp) | exact .int _ _)⟩ ?_)))), i + 1, rfl, by omega, rfl, by rw [hw]⟩
        · obtain rfl : i = l.length := by omega
          (repeat (first | (with_reducible refine AWo.cons ?_) | ((with_reducible refine Step.id ?_); first | ((with_reducible apply Step.move); exact rfl; exact rfl) | ((with_reducible apply Step.assign); exact rfl; exact rfl) | ((with_reducible apply Step.lss); exact rfl; exact rfl; exact rfl)) | (with_reducible refine AWo.nil ?_) | ((with_reducible apply AW.seq)) | ((with_reducible apply Then.n)) | ((with_reducible apply AW.regL)) | ((with_reducible apply AW.exit)) | ((with_reducible apply InBlk.hit)) | ((with_reducible apply Then.e)) | ((with_reducible apply AW.condF); exact rfl; (focus ((simp only [decide_eq_true_eq, decide_eq_false_iff_not, Bool.not_eq_true', Bool.not_eq_false', Bool.not_true, Bool.not_false]; first | assumption | omega))))))
          (refine AW.ret ?_; (repeat (first | refine Then.r ?_ | refine InBlk.r ?_)))
          obtain ⟨N, hN⟩ := hm1
          exact ⟨_, rfl, N, by rw [List.append_nil]; exact hN, _, by rw [List.take_of_length_le (Nat.le_refl _)], by rw [List.append_nil]; exact hpc⟩
set_option maxHeartbeats 8000000 in
set_option maxRecDepth 100000 in
theorem Counts_ok {m : AM} {sv kv v : Value} {B : Brd} {K : List Kd} {ps : List Nd} (hs : Strs m sv B) (hk : Kds m kv K) (hv : PN m v ps) (hlen : ps.length ≤ 1000000) :
    ACall Tryd.prog 47 #[sv, kv, v] m (More (fun M w => ∃ u, w = .tuple #[u, .int .i64 (rdgM B K ps).2] ∧ Ints M u (cntM K.length (rdgM B K ps))) m) := by
  have hR := Reading_ok hs hk hv hlen
  have hM : 0 < m.length := by obtain ⟨A1, O1, sl1, la1, rd1⟩ := hs; omega
  obtain ⟨hl1, hl2, hl3⟩ := rdgM_all (B := B) (K := K) (ps := ps)
  have hgd := rdg_good (B := B) (K := K) (ps := ps)
  generalize rdgM B K ps = x at *
  obtain ⟨l, e⟩ := x
  simp only at hR hl1 hl2 hl3 hgd ⊢
  obtain ⟨A2, O2, sl2, la2, rd2⟩ := id hk
  obtain ⟨q2, c2, rfl⟩ := sl2.shape
  refine ACall.start Tryd.func47 rfl rfl ?_
  (repeat (first | (with_reducible refine AWo.cons ?_) | ((with_reducible refine Step.id ?_); first | ((with_reducible apply Step.move); exact rfl; exact rfl) | ((with_reducible apply Step.assign); exact rfl; exact rfl)) | (with_reducible refine AWo.nil ?_) | ((with_reducible apply AW.seq)) | ((with_reducible apply Then.n)) | ((with_reducible apply AW.regL))))
  rw [List.append_nil]
  ((with_reducible apply Step.callX fit); exact rfl; exact Tryd.func87; exact rfl; exact rfl; exact hR)
  rintro _ M1 ⟨N1, hN1⟩ ⟨pv, u, rfl, hpc, _⟩
  clear hR
  rw [List.append_nil]
  by_cases he : e = 0
  · subst he
    have hkl := good_kl (hgd rfl)
    have la3 : A2 < M1.length := by rw [hN1, List.length_append]; omega
    (repeat (first | (with_reducible refine AWo.cons ?_) | ((with_reducible refine Step.id ?_); first | ((with_reducible apply Step.move); exact rfl; exact rfl) | ((with_reducible apply Step.assign); exact rfl; exact rfl) | ((with_reducible apply Step.neq); exact rfl; exact rfl; exact rfl) | ((with_reducible apply Step.extract); exact rfl; exact rfl; exact rfl)) | (with_reducible refine AWo.nil ?_) | ((fail_if_success (with_reducible refine AW.atR (id := 4) ?_)); ((with_reducible apply AW.seq))) | ((with_reducible apply Then.n)) | ((with_reducible apply AW.regL)) | ((with_reducible apply AW.skip)) | ((with_reducible apply AW.condF); exact rfl; (focus (rfl)))))
    refine AW.rebase ?_
    obtain ⟨A4, O4, sl4, la4, rd4⟩ := id hpc
    obtain ⟨q4, c4, rfl⟩ := sl4.shape
    have w2 : Low M1.length (.slice q4 l.length c4) := Low.of_sl sl4 la4
    (repeat (first | (with_reducible refine AWo.cons ?_) | ((with_reducible refine Step.id ?_); first | ((with_reducible apply Step.move); exact rfl; exact rfl) | ((with_reducible apply Step.assign); exact rfl; exact rfl) | ((with_reducible apply Step.len); exact rfl; (focus (assumption)); (focus (decide +kernel)); exact rfl) | ((with_reducible apply Step.make1 0); exact rfl; exact rfl; exact rfl; exact el47; (focus (omega)); exact rfl; (focus (first | (simp only [List.nil_append, List.cons_append, List.set_cons_zero, List.set_cons_succ, iv_set, bv_set, iv_rep, bv_rep]; done) | (simp only [List.nil_append, List.cons_append, List.set_cons_zero, List.set_cons_succ, iv_set, bv_set, iv_rep, bv_rep]; rfl) | rfl)))) | (with_reducible refine AWo.nil ?_) | ((with_reducible apply AW.seq)) | ((with_reducible apply Then.n)) | ((with_reducible apply AW.regL)) | ((with_reducible apply AW.block))))
    refine AW.loopT (fun n t L => ∃ i : Nat, n = l.length - i ∧ i ≤ l.length ∧ L = [some { cells := iv (cntT K.length l i) }] ∧
      t = [(11, .slice (some ⟨M1.length + 0, 0, none⟩) K.length K.length), (28, .slice q4 l.length c4), (29, .int .i64 (l.length : Nat)), (30, .int .i64 (i : Nat))])
      ⟨_, _, _, (Or.inl ⟨rfl, (by repeat (first | exact trivial | (refine And.intro rfl ?_)))⟩), 0, rfl, Nat.zero_le _, rfl, rfl⟩ ?_
    rintro n t L ⟨i, rfl, hi, rfl, rfl⟩
    rcases Nat.lt_or_ge i l.length with hlt | hge
    · have rp := rd4 i hlt
      have hmem : l.getD i default ∈ l := by rw [getD_in _ _ hlt]; exact List.getElem_mem hlt
      have hx := (hl3 _ hmem).1
      have hc := cntT_in K.length l (l.getD i default).1 i
      have hcl := cntT_len K.length l i
      have hst : (cntT K.length l i).set (l.getD i default).1 ((cntT K.length l i).getD (l.getD i default).1 0 + 1) = cntT K.length l (i + 1) := rfl
      generalize l.getD i default = y at *
      obtain ⟨yk, yr, yt⟩ := y
      simp only at hx hc hst
      simp only [plc1, Rc.cells, List.cons_append, List.nil_append] at rp
      generalize hct : cntT K.length l i = ct at *
      (repeat (first | (with_reducible refine AWo.cons ?_) | ((with_reducible refine Step.id ?_); first | ((with_reducible apply Step.move); exact rfl; exact rfl) | ((with_reducible apply Step.load); exact rfl; (focus (decide +kernel)); exact rfl; (focus (first | exact Rd.new rfl (iv_get (by first | omega | (simp; omega))) | exact Rd.new rfl rfl))) | ((with_reducible apply Step.loadL (n := 6)); exact rfl; (focus (decide +kernel)); (focus (decide +kernel)); exact rfl; (focus (exact RdL.old _ (by assumption))); exact rfl; exact rfl) | ((with_reducible apply Step.ix1z); exact rfl; (focus (exact Sl.mk (by omega))); exact rfl; (focus (decide +kernel)); exact rfl; (focus (omega))) | ((with_reducible apply Step.ix (s := 6)); exact rfl; (focus (assumption)); exact rfl; (focus (decide +kernel)); exact rfl; (focus (omega))) | ((with_reducible apply Step.field0); exact rfl; (focus (decide +kernel)); exact rfl) | ((with_reducible apply Step.add); exact rfl; exact rfl; (focus (omega)); exact rfl) | ((with_reducible apply Step.lss); exact rfl; exact rfl; exact rfl) | ((with_reducible apply Step.store (k := 0)); exact rfl; exact rfl; exact rfl; exact rfl; (focus (decide +kernel)); exact rfl; exact rfl; (focus (first | omega | (simp [iv, bv]; done) | (simp [iv, bv]; omega))); (focus (first | (simp only [List.nil_append, List.cons_append, List.set_cons_zero, List.set_cons_succ, iv_set, bv_set, iv_rep, bv_rep]; done) | (simp only [List.nil_append, List.cons_append, List.set_cons_zero, List.set_cons_succ, iv_set, bv_set, iv_rep, bv_rep]; rfl) | rfl))) | ((with_reducible apply Step.alloc 1); exact rfl; exact ze81; exact rfl; (focus (first | (simp only [List.nil_append, List.cons_append, List.set_cons_zero, List.set_cons_succ, iv_set, bv_set, iv_rep, bv_rep]; done) | (simp only [List.nil_append, List.cons_append, List.set_cons_zero, List.set_cons_succ, iv_set, bv_set, iv_rep, bv_rep]; rfl) | rfl))) | ((with_reducible apply Step.storeA (k := 1) (n := 6)); exact rfl; exact rfl; exact rfl; exact rfl; (focus (decide +kernel)); exact rfl; (focus (kernel_rfl)); exact rfl; (focus (first | (simp only [List.nil_append, List.cons_append, List.set_cons_zero, List.set_cons_succ, iv_set, bv_set, iv_rep, bv_rep]; done) | (simp only [List.nil_append, List.cons_append, List.set_cons_zero, List.set_cons_succ, iv_set, bv_set, iv_rep, bv_rep]; rfl) | rfl)))) | (with_reducible refine AWo.nil ?_) | ((with_reducible apply AW.seq)) | ((with_reducible apply Then.n)) | ((with_reducible apply AW.regL)) | ((with_reducible apply AW.block)) | ((with_reducible apply InBlk.n)) | ((with_reducible apply AW.skip)) | ((with_reducible apply AW.condT); exact rfl; (focus ((simp only [decide_eq_true_eq, decide_eq_false_iff_not, Bool.not_eq_true', Bool.not_eq_false', Bool.not_true, Bool.not_false]; first | assumption | omega))))))
      exact ⟨_, [(11, .slice (some ⟨M1.length + 0, 0, none⟩) K.length K.length), (28, .slice q4 l.length c4), (29, .int .i64 (l.length : Nat)), (30, .int .i64 (i + 1 : Nat))], [some { cells := iv (ct.set yk (ct.getD yk 0 + 1)) }], by omega, (Back.trim rfl rfl (by repeat (first | exact CellsOk.nil | refine CellsOk.cons (by exact g0_iv _) ?_)) (by repeat (first | exact trivial | (refine And.intro ⟨rfl, by (first | exact Low.rid (by assumption) (by simp) | exact .int _ _ | exact .slice _ _ _ _ (by first | (simp; done) | omega | (simp; omega)))⟩ ?_)))), i + 1, rfl, by omega, by rw [hst], rfl⟩
    · obtain rfl : i = l.length := by omega
      (repeat (first | (with_reducible refine AWo.cons ?_) | ((with_reducible refine Step.id ?_); first | ((with_reducible apply Step.move); exact rfl; exact rfl) | ((with_reducible apply Step.assign); exact rfl; exact rfl) | ((with_reducible apply Step.lss); exact rfl; exact rfl; exact rfl)) | (with_reducible refine AWo.nil ?_) | ((with_reducible apply AW.seq)) | ((with_reducible apply Then.n)) | ((with_reducible apply AW.regL)) | ((with_reducible apply AW.exit)) | ((with_reducible apply InBlk.hit)) | ((with_reducible apply Then.e)) | ((with_reducible apply AW.condF); exact rfl; (focus ((simp only [decide_eq_true_eq, decide_eq_false_iff_not, Bool.not_eq_true', Bool.not_eq_false', Bool.not_true, Bool.not_false]; first | assumption | omega))))))
      (refine AW.ret ?_; (repeat (first | refine Then.r ?_ | refine InBlk.r ?_)))
      exact ⟨_, rfl, N1 ++ [some { cells := iv (cntT K.length l l.length) }], by rw [hN1, List.append_assoc], _, rfl, ints_new rfl rfl _ (cntT_len _ _ _).symm⟩
  · have hc : cntM K.length (l, e) = [] := by unfold cntM; rw [if_neg he]
    rw [hc]
    (repeat (first | (with_reducible refine AWo.cons ?_) | ((with_reducible refine Step.id ?_); first | ((with_reducible apply Step.move); exact rfl; exact rfl) | ((with_reducible apply Step.assign); exact rfl; exact rfl) | ((with_reducible apply Step.neq); exact rfl; exact rfl; exact rfl) | ((with_reducible apply Step.extract); exact rfl; exact rfl; exact rfl)) | (with_reducible refine AWo.nil ?_) | ((with_reducible apply AW.seq)) | ((with_reducible apply Then.n)) | ((with_reducible apply AW.regL)) | ((with_reducible apply AW.condT); exact rfl; (focus ((simp only [decide_eq_true_eq, decide_eq_false_iff_not, Bool.not_eq_true', Bool.not_eq_false', Bool.not_true, Bool.not_false]; first | assumption | omega))))))
    (refine AW.ret ?_; (repeat (first | refine Then.r ?_ | refine InBlk.r ?_)))
    exact ⟨_, rfl, N1, by rw [hN1], _, rfl, ints_nil (by rw [hN1, List.length_append]; omega)⟩
end Go.Proofs.YtibhgdglbillaaaDoor.Abs
namespace Go.Proofs.YtibhgdglbillaaaDoor.Abs
set_option linter.unusedSimpArgs false
set_option linter.unusedVariables false
open Go.RowKit
open Go.Proofs.YtibhgdglbillaaaDoor.Sim
open Go.ChangeShapes Go.WideShapes Go.Deep
def RelSelf (v : Value) : Prop := ∃ c, v = .agg c ∧ ∀ R, Rel R (.agg c) (.agg c)
def Okarg3 (W : World) (a : AR) : Prop := Okarg W a ∨ RelSelf a.1
theorem top_call3 {P : Program} {f : FuncId} {W : World} (ars : List AR) (h : ∀ a ∈ ars, Okarg3 W a) (hc : ACall P f (mkVs 0 ars).toArray (ars.map mkB) (Ret (.bool true) (ars.map mkB))) :
    Calls P f (ars.map (·.1)).toArray W fun e w' => e = .returned (.bool true) ∧ Below W.heap.size W w' := by
  let R : Pl := fun i => (ars[i]?).bind mkP
  have hm : MRep W.heap.size R (ars.map mkB) W := by
    refine ⟨fun i hi => ?_, fun i b hi => ?_, fun i j b c p q hi hj hb _ _ _ _ => ?_⟩
    · simp only [List.length_map] at hi
      simp [R, List.getElem?_eq_none hi]
    · rw [List.getElem?_map] at hi
      cases ha : ars[i]? with
      | none => rw [ha] at hi; cases hi
      | some a =>
        rw [ha] at hi
        simp only [Option.map_some, Option.some.injEq] at hi
        obtain ⟨v, c⟩ := a
        rcases h _ (List.mem_of_getElem? ha) with (h1 | ⟨bb, o, n, cap, h1, h2, h3, h4, h5⟩) | ⟨l, h1, hl⟩
        · simp only at h1
          cases v with
          | slice x n cap => cases x with
            | none => simp [mkB] at hi
            | some x => simp [g0] at h1
          | _ => simp [mkB] at hi
        · simp only at h1
          subst h1
          simp only [mkB, Option.some.injEq] at hi
          subst hi
          refine ⟨⟨bb, o, cap - n⟩, by simp [R, ha, mkP], h3, ?_⟩
          refine ⟨fun e => by simp at e, fun j x hj => ⟨x, h4 j x hj, g0_rel (h5 x (List.mem_of_getElem? hj))⟩⟩
        · simp only at h1
          subst h1
          simp [mkB] at hi
    · rw [List.getElem?_map] at hi
      cases ha : ars[i]? with
      | none => rw [ha] at hi; cases hi
      | some a =>
        rw [ha] at hi
        simp only [Option.map_some, Option.some.injEq] at hi
        obtain ⟨v, c'⟩ := a
        cases v with
        | slice x n cap => cases x with
          | none => simp [mkB] at hi
          | some x => simp only [mkB, Option.some.injEq] at hi; subst hi; cases hb
        | _ => simp [mkB] at hi
  have hargs : Rels R (mkVs 0 ars).toArray (ars.map (·.1)).toArray := by
    refine ⟨by simp [mkVs_len], fun i hi => ?_⟩
    simp only [List.size_toArray, mkVs_len] at hi
    have ha : ars[i]? = some ars[i] := List.getElem?_eq_getElem hi
    have e1 : (mkVs 0 ars).toArray.getD i undef = mkV i ars[i].1 := by
      simp [mkVs_get, ha]
    have e2 : (ars.map (·.1)).toArray.getD i undef = ars[i].1 := by simp [hi]
    rw [e1, e2]
    generalize ars[i] = a at ha
    obtain ⟨v, c⟩ := a
    rcases h _ (List.mem_of_getElem? ha) with (h1 | ⟨bb, o, n, cap, h1, h2, h3, h4, h5⟩) | ⟨l, h1, hl⟩
    · simp only at h1 ⊢
      cases v with
      | slice x n cap => cases x with
        | none => exact g0_rel h1
        | some x => simp [g0] at h1
      | _ => exact g0_rel h1
    · simp only at h1 ⊢
      subst h1
      have := Rel.slice (R := R) i 0 n n ⟨bb, o, cap - n⟩ (by simp [R, ha, mkP]) (Nat.le_refl _)
      rw [show n + (cap - n) = cap by omega] at this
      simpa [mkV] using this
    · simp only at h1 ⊢
      subst h1
      exact hl R
  refine (hc W.heap.size R W _ (Nat.le_refl _) hm hargs).mono ?_
  rintro e w' ⟨v, v', R', m', rfl, k1, k2, rfl, rfl⟩
  cases k1
  exact ⟨rfl, k2.below hm (Nat.le_refl _)⟩
theorem RelSelf.rect (r : Rc) : RelSelf r.v := ⟨_, rfl, fun R => rel_aggI R [r.x, r.y, r.w, r.h]⟩
theorem RelSelf.kind (k : Kd) : RelSelf k.v := ⟨_, rfl, fun R => .agg _ _ rfl fun i hi => by
  simp at hi
  rcases (show i = 0 ∨ i = 1 ∨ i = 2 ∨ i = 3 ∨ i = 4 by omega) with rfl | rfl | rfl | rfl | rfl
  · exact .int _ _
  · exact .int _ _
  · exact .int _ _
  · exact .int _ _
  · exact .bool _⟩
def sv (l : List ByteArray) : List Value := l.map .string
def kb (y : List Int × Bool) : List Value := iv y.1 ++ [.bool y.2]
theorem g0_kb (y : List Int × Bool) : ∀ v ∈ kb y, g0 v = true := fun v hv => by
  rcases List.mem_append.1 hv with h | h
  · exact g0_iv _ v h
  · simp at h; subst h; rfl
def kindB (P : Program) (f : Field) : Bool := match P.underlying f.type with | some .bool => true | _ => false
def kindI (P : Program) (f : Field) : Bool := match P.underlying f.type with | some (.int .i64) => true | _ => false
def fieldsKB (P : Program) (fs : Array Field) (q : Nat) : Bool := (List.range q).all (fun j => match fs[j]? with | some f => kindI P f | none => false) && match fs[q]? with | some f => kindB P f | none => false
theorem fieldsKB_int {P : Program} {fs : Array Field} {q j : Nat} {f : Field} (h : fieldsKB P fs q = true) (hj : fs[j]? = some f) (hq : j < q) : P.underlying f.type = some (.int .i64) := by
  simp only [fieldsKB, Bool.and_eq_true] at h
  have := List.all_eq_true.1 h.1 j (List.mem_range.2 hq)
  rw [hj] at this
  simp only [kindI] at this
  split at this
  · assumption
  · cases this
theorem fieldsKB_bool {P : Program} {fs : Array Field} {q : Nat} {f : Field} (h : fieldsKB P fs q = true) (hj : fs[q]? = some f) : P.underlying f.type = some .bool := by
  simp only [fieldsKB, Bool.and_eq_true] at h
  have := h.2
  rw [hj] at this
  simp only [kindB] at this
  split at this
  · assumption
  · cases this
section
variable {H : Type} {enc : TypeId × Value → H} {P : Program} {w : World} {base : Nat} {spare : Nat → Bool} {held : Bool}
theorem arg_strs {r : Reach} {b0 : Nat} {T e : TypeId} {a : Option Addr} {n c : Nat} {d : DataW H} {p : List MemPlace} (ht : P.underlying T = some (.slice e)) (he : P.underlying e = some .string) (hce : P.cellsOf e = 1) (hok : Value.okWide P w r b0 T (.slice a n c)) (h : DataW.Trod enc P w base spare held T (.slice a n c) d p) :
    ∃ l : List ByteArray, l.length = n ∧ n ≤ maxLen ∧ Okarg w (.slice a n c, sv l) ∧ ∀ M : AM, ∀ i, M[i]? = some (mkB (.slice a n c, sv l)) → Strs M (mkV i (.slice a n c)) l := by
  obtain ⟨fuel, h⟩ := h
  rcases ok_slice ht hok with ⟨rfl, rfl, rfl⟩ | ⟨b, o, rfl, hle, hlt⟩
  · exact ⟨[], rfl, by unfold maxLen; omega, .inl rfl, fun M i hi => ⟨i, 0, .inl ⟨rfl, rfl⟩, (List.getElem?_eq_some_iff.1 hi).1, fun k hk => by simp at hk⟩⟩
  · rcases open_strs ht he hce h with ⟨hcs, _⟩ | ⟨x, l, cap, m, S, hcs, _, hl, hm, hmm, _, hcell⟩
    · simp [Value.cells] at hcs
    · simp [Value.cells] at hcs
      obtain ⟨rfl, rfl, rfl⟩ := hcs
      have hnm : n ≤ m := by rw [hmm]; split <;> omega
      refine ⟨(List.range n).map S, by simp, by omega, .inr ⟨b, o, n, c, rfl, hle, hlt, fun j x hj => ?_, fun x hx => ?_⟩, fun M i hM => ?_⟩
      · have hjl := (List.getElem?_eq_some_iff.1 hj).1
        simp [sv] at hjl
        have := (hcell j (by omega)).1
        rw [Addr.add_lit] at this
        rw [this]
        simpa [sv, hjl] using hj
      · simp [sv] at hx
        obtain ⟨k, _, rfl⟩ := hx
        rfl
      · simp only [mkB] at hM
        refine ⟨i, 0, by simpa [mkV] using Sl.mk (Nat.le_refl n), (List.getElem?_eq_some_iff.1 hM).1, fun k hk => ⟨_, hM, ?_⟩⟩
        simp at hk
        simp [sv, rowOf, hk]
theorem arg_kb {r : Reach} {b0 : Nat} {T e : TypeId} {fs : Array Field} {a : Option Addr} {n c : Nat} {d : DataW H} {p : List MemPlace} (ht : P.underlying T = some (.slice e)) (he : P.underlying e = some (.struct fs)) (hone : oneCellFields P fs = true) (hC : P.cellsOf e = fs.size)
    {q : Nat} (hq : fs.size = q + 1) (hi : fieldsKB P fs q = true) (hok : Value.okWide P w r b0 T (.slice a n c)) (h : DataW.Trod enc P w base spare held T (.slice a n c) d p) :
    ∃ F : Nat → List Int × Bool, (∀ k, (F k).1.length = q) ∧ n ≤ maxLen ∧ Okarg w (.slice a n c, (List.range n).flatMap fun k => kb (F k)) ∧ (∀ M : AM, ∀ i, M[i]? = some (mkB (.slice a n c, (List.range n).flatMap fun k => kb (F k))) → Sl (mkV i (.slice a n c)) i 0 n ∧ i < M.length ∧ ∀ k, k < n → RdL M i (0 + k * fs.size) (kb (F k))) := by
  obtain ⟨fuel, h⟩ := h
  rcases ok_slice ht hok with ⟨rfl, rfl, rfl⟩ | ⟨b, o, rfl, hle, hlt⟩
  · exact ⟨fun _ => (List.replicate q 0, false), fun _ => by simp, by unfold maxLen; omega, .inl rfl, fun M i hi => ⟨.inl ⟨rfl, rfl⟩, (List.getElem?_eq_some_iff.1 hi).1, fun k hk => by omega⟩⟩
  · rcases open_slice_fields ht he hone hC h with ⟨hcs, _⟩ | ⟨x, l, cap, m, D, Pl, hcs, _, hl, hm, hmm, _, hrow⟩
    · simp [Value.cells] at hcs
    · simp [Value.cells] at hcs
      obtain ⟨rfl, rfl, rfl⟩ := hcs
      have key : ∀ k : Nat, ∃ y : List Int × Bool, y.1.length = q ∧ (k < n → ∀ j v, (kb y)[j]? = some v → w.cell? ⟨b, o + (k * fs.size + j), none⟩ = some v) := fun k => by
        by_cases hk : k < n
        · obtain ⟨ys, nn, _, _, _, hf⟩ := hrow k (by rw [hmm]; split <;> omega)
          have key2 : ∀ j : Nat, ∃ z : Int, j < q → w.cell? ⟨b, o + (k * fs.size + j), none⟩ = some (.int .i64 z) := fun j => by
            by_cases hj : j < q
            · obtain ⟨v, y, h1, _, h3⟩ := hf j fs[j] (Array.getElem?_eq_getElem (by omega))
              obtain ⟨z, hz, _⟩ := DataW.trod_int (fieldsKB_int hi (Array.getElem?_eq_getElem (by omega)) hj) h3
              simp at hz
              subst hz
              rw [Addr.add_lit] at h1
              exact ⟨z, fun _ => h1⟩
            · exact ⟨0, fun h => absurd h hj⟩
          obtain ⟨g, hg⟩ := Classical.axiomOfChoice key2
          obtain ⟨v, y, h1, _, h3⟩ := hf q (fs[q]'(by omega)) (Array.getElem?_eq_getElem (by omega))
          obtain ⟨z, hz, _⟩ := DataW.trod_bool (fieldsKB_bool hi (Array.getElem?_eq_getElem (by omega))) h3
          simp at hz
          subst hz
          rw [Addr.add_lit] at h1
          refine ⟨((List.range q).map g, z), by simp, fun _ j v hj => ?_⟩
          unfold kb at hj
          rcases Nat.lt_trichotomy j q with h | rfl | h
          · rw [List.getElem?_append_left (by simpa [iv] using h), iv_get (by simpa using h)] at hj
            injection hj with hj
            rw [hg j h, ← hj]
            simp [h]
          · rw [List.getElem?_append_right (by simp [iv])] at hj
            simp [iv] at hj
            rw [← hj]; exact h1
          · rw [List.getElem?_eq_none (by simp [iv]; omega)] at hj
            cases hj
        · exact ⟨(List.replicate q 0, false), by simp, fun h => absurd h hk⟩
      obtain ⟨F, hF⟩ := Classical.axiomOfChoice key
      have hlenF : ∀ k, (kb (F k)).length = fs.size := fun k => by unfold kb; rw [List.length_append, iv_len, (hF k).1, hq]; rfl
      have get : ∀ q, ∀ k, k < q → ∀ j v, (kb (F k))[j]? = some v → ((List.range q).flatMap fun k => kb (F k))[k * fs.size + j]? = some v := by
        intro q
        induction q with
        | zero => intro k hk; omega
        | succ q ih =>
          intro k hk j v hj
          have hjl : j < fs.size := by
            have := (List.getElem?_eq_some_iff.1 hj).1
            rwa [hlenF] at this
          have hql : ((List.range q).flatMap fun k => kb (F k)).length = q * fs.size := by
            clear ih hk hj
            induction q with
            | zero => simp
            | succ q ih2 => rw [List.range_succ, List.flatMap_append, List.length_append, ih2]; simp [hlenF, Nat.add_mul]
          rw [List.range_succ, List.flatMap_append]
          rcases Nat.lt_succ_iff_lt_or_eq.1 hk with h' | h'
          · have h2 : k * fs.size + fs.size ≤ q * fs.size := by
              have := Nat.mul_le_mul_right fs.size (show k + 1 ≤ q by omega)
              rw [Nat.add_mul] at this; omega
            rw [List.getElem?_append_left (by rw [hql]; omega)]
            exact ih k h' j v hj
          · subst h'
            rw [List.getElem?_append_right (by rw [hql]; omega), hql, Nat.add_sub_cancel_left]
            simpa using hj
      have tot : ∀ q, ((List.range q).flatMap fun k => kb (F k)).length = q * fs.size := fun q => by
        induction q with
        | zero => simp
        | succ q ih2 => rw [List.range_succ, List.flatMap_append, List.length_append, ih2]; simp [hlenF, Nat.add_mul]
      refine ⟨F, fun k => (hF k).1, by omega, .inr ⟨b, o, n, c, rfl, hle, hlt, fun j x hj => ?_, fun x hx => ?_⟩, fun M i hM => ?_⟩
      · have hjl := (List.getElem?_eq_some_iff.1 hj).1
        simp only at hjl hj
        rw [tot] at hjl
        have hs : 0 < fs.size := by
          rcases Nat.eq_zero_or_pos fs.size with h0 | h0
          · rw [h0] at hjl; omega
          · exact h0
        have hk : j / fs.size < n := (Nat.div_lt_iff_lt_mul hs).2 hjl
        have hr : j % fs.size < fs.size := Nat.mod_lt _ hs
        have e : j = j / fs.size * fs.size + j % fs.size := by rw [Nat.mul_comm]; exact (Nat.div_add_mod j fs.size).symm
        obtain ⟨v, hv⟩ : ∃ v, (kb (F (j / fs.size)))[j % fs.size]? = some v := ⟨_, List.getElem?_eq_getElem (by rw [hlenF]; exact hr)⟩
        have h1 := get n (j / fs.size) hk (j % fs.size) v hv
        rw [← e] at h1
        rw [h1] at hj
        injection hj with hj
        have h2 := (hF (j / fs.size)).2 hk (j % fs.size) v hv
        rw [← e] at h2
        rw [h2, hj]
      · obtain ⟨k, _, hk⟩ := List.mem_flatMap.1 hx
        exact g0_kb _ x hk
      · simp only [mkB] at hM
        refine ⟨Sl.mk (Nat.le_refl _), (List.getElem?_eq_some_iff.1 hM).1, fun k hk => ⟨_, hM, fun j v hj => ?_⟩⟩
        rw [Nat.zero_add]
        exact get n k hk j v hj
def kv (l : List Kd) : List Value := l.flatMap Kd.cells
theorem arg_kinds {r : Reach} {b0 : Nat} {T e : TypeId} {fs : Array Field} {a : Option Addr} {n c : Nat} {d : DataW H} {p : List MemPlace} (ht : P.underlying T = some (.slice e)) (he : P.underlying e = some (.struct fs)) (hone : oneCellFields P fs = true) (hC : P.cellsOf e = fs.size)
    (hq : fs.size = 4 + 1) (hi : fieldsKB P fs 4 = true) (hok : Value.okWide P w r b0 T (.slice a n c)) (h : DataW.Trod enc P w base spare held T (.slice a n c) d p) :
    ∃ l : List Kd, l.length = n ∧ n ≤ maxLen ∧ Okarg w (.slice a n c, kv l) ∧ ∀ M : AM, ∀ i, M[i]? = some (mkB (.slice a n c, kv l)) → Kds M (mkV i (.slice a n c)) l := by
  obtain ⟨F, h1, h2, h3, h4⟩ := arg_kb ht he hone hC hq hi hok h
  have key : ∀ k, ∃ x : Kd, kb (F k) = x.cells := fun k => by
    have hk := h1 k
    generalize F k = y at hk ⊢
    obtain ⟨l, b⟩ := y
    simp only at hk
    match l, hk with
    | [x, y, z, u], _ => exact ⟨⟨x, y, z, u, b⟩, rfl⟩
  obtain ⟨G, hG⟩ := Classical.axiomOfChoice key
  have e : ((List.range n).flatMap fun k => kb (F k)) = kv ((List.range n).map G) := by
    unfold kv
    rw [List.flatMap_map]
    congr 1
    funext k
    exact hG k
  rw [e] at h3 h4
  refine ⟨(List.range n).map G, by simp, h2, h3, fun M i hM => ?_⟩
  obtain ⟨k1, k2, k3⟩ := h4 M i hM
  refine ⟨i, 0, by simpa using k1, k2, fun k hk => ?_⟩
  simp at hk
  have := k3 k hk
  rw [hq, hG k] at this
  have eg : ((List.range n).map G).getD k default = G k := by simp [hk]
  rw [eg]
  exact this
end
end Go.Proofs.YtibhgdglbillaaaDoor.Abs
namespace Go.Proofs.YtibhgdglbillaaaDoor.Abs
set_option linter.unusedSimpArgs false
set_option linter.unusedVariables false
open Go.RowKit
open Go.Proofs.YtibhgdglbillaaaDoor.Sim
open Go.Proofs
/-- What is left of a board; nothing if the plan is none. -/
def rstM (B : Brd) (x : List Plc × Int) : Brd := if x.2 = 0 then punchT B x.1 x.1.length else []
theorem bs30e {m : AM} {k : Nat} : abuildSlice Tryd.prog m k 30 0 [] = some (.slice (some ⟨k, 0, none⟩) 0 0, m.set k (some { cells := [] })) := by kernel_rfl
theorem sv_get (B : Brd) {y : Nat} (h : y < B.length) : (sv B)[y]? = some (.string (rowOf B y)) := by
  unfold sv rowOf
  rw [getD_in _ _ h]
  simp [h]
theorem sv_one (B : Brd) : (sv B).all (·.oneCell') = true := by
  rw [List.all_eq_true]
  intro v hv
  simp only [sv, List.mem_map] at hv
  obtain ⟨b, _, rfl⟩ := hv
  rfl
theorem strs_rdl {m : AM} {a o : Nat} {B : Brd} (h0 : 0 < B.length) (rd : ∀ y, y < B.length → Rd m a (o + y) (.string (rowOf B y))) : RdL m a o (sv B) := by
  obtain ⟨b, k1, k2⟩ := rd 0 h0
  refine ⟨b, k1, fun j v hj => ?_⟩
  have hl : j < B.length := by
    have := (List.getElem?_eq_some_iff.1 hj).1
    simpa [sv] using this
  rw [sv_get B hl] at hj
  injection hj with hj
  subst hj
  obtain ⟨b', q1, q2⟩ := rd j hl
  rw [k1] at q1
  injection q1 with q1
  injection q1 with q1
  subst q1
  exact q2
theorem row_strs {M : AM} {b0 n : Nat} {u : Value} {B : Brd} (h : Row M b0 1 u (sv B) n) (hn : n = B.length) (hM : 0 < M.length) : Strs M u B := by
  subst hn
  obtain ⟨a, h1, h2, h3⟩ := Row.sl h hM
  refine ⟨a, 0, h1, h2, fun y hy => ?_⟩
  have := (h3 (by omega)).at_ y (sv_get B hy)
  exact this
theorem strs_nil {M : AM} (hM : 0 < M.length) : Strs M (.slice none 0 0) [] := ⟨0, 0, .inl ⟨rfl, rfl⟩, hM, fun y hy => by simp at hy⟩
set_option maxHeartbeats 8000000 in
set_option maxRecDepth 100000 in
theorem Rest_ok {m : AM} {sv0 kv v : Value} {B : Brd} {K : List Kd} {ps : List Nd} (hs : Strs m sv0 B) (hk : Kds m kv K) (hv : PN m v ps) (hlen : ps.length ≤ 1000000) :
    ACall Tryd.prog 49 #[sv0, kv, v] m (More (fun M w => ∃ u, w = .tuple #[u, .int .i64 (rdgM B K ps).2] ∧ Strs M u (rstM B (rdgM B K ps))) m) := by
  have hR := Reading_ok hs hk hv hlen
  have hM : 0 < m.length := by obtain ⟨A1, O1, sl1, la1, rd1⟩ := hs; omega
  obtain ⟨hl1, hl2, hl3⟩ := rdgM_all (B := B) (K := K) (ps := ps)
  have hgd := rdg_good (B := B) (K := K) (ps := ps)
  generalize rdgM B K ps = x at *
  obtain ⟨l, e⟩ := x
  simp only at hR hl1 hl2 hl3 hgd ⊢
  refine ACall.start Tryd.func49 rfl rfl ?_
  (repeat (first | (with_reducible refine AWo.cons ?_) | ((with_reducible refine Step.id ?_); first | ((with_reducible apply Step.move); exact rfl; exact rfl) | ((with_reducible apply Step.assign); exact rfl; exact rfl)) | (with_reducible refine AWo.nil ?_) | ((with_reducible apply AW.seq)) | ((with_reducible apply Then.n)) | ((with_reducible apply AW.regL))))
  rw [List.append_nil]
  ((with_reducible apply Step.callX fit); exact rfl; exact Tryd.func87; exact rfl; exact rfl; exact hR)
  rintro _ M1 ⟨N1, hN1⟩ ⟨pv, u, rfl, hpc, hbo⟩
  clear hR
  rw [List.append_nil]
  have hml : 0 < M1.length := by rw [hN1, List.length_append]; omega
  by_cases he : e = 0
  · subst he
    obtain ⟨p, rfl, hB⟩ := hbo rfl
    have hg := hgd rfl
    have hgb : boardB B = true := by simp only [goodB, Bool.and_eq_true] at hg; exact hg.1
    have hin := good_in hgb
    have hb0 : 0 < B.length := hin.1
    have hb16 : B.length ≤ 16 := hin.2.1
    obtain ⟨⟨rv, hrv, hrs⟩, _, _, _, _⟩ := hB
    obtain ⟨A1, O1, sl1, la1, rd1⟩ := hrs
    have hrdl : RdL M1 A1 O1 (sv B) := strs_rdl hb0 rd1
    have hr0 : rstM B (l, 0) = punchT B l l.length := rfl
    rw [hr0]
    (repeat (first | (with_reducible refine AWo.cons ?_) | ((with_reducible refine Step.id ?_); first | ((with_reducible apply Step.move); exact rfl; exact rfl) | ((with_reducible apply Step.assign); exact rfl; exact rfl) | ((with_reducible apply Step.neq); exact rfl; exact rfl; exact rfl) | ((with_reducible apply Step.extract); exact rfl; exact rfl; exact rfl)) | (with_reducible refine AWo.nil ?_) | ((fail_if_success (with_reducible refine AW.atR (id := 4) ?_)); ((with_reducible apply AW.seq))) | ((with_reducible apply Then.n)) | ((with_reducible apply AW.regL)) | ((with_reducible apply AW.skip)) | ((with_reducible apply AW.condF); exact rfl; (focus (rfl)))))
    refine AW.rebase ?_
    (repeat (first | (with_reducible refine AWo.cons ?_) | ((with_reducible refine Step.id ?_); first | ((with_reducible apply Step.move); exact rfl; exact rfl) | ((with_reducible apply Step.load); exact rfl; (focus (decide +kernel)); exact rfl; (focus (exact Rd.old _ (by assumption)))) | ((with_reducible apply Step.field0); exact rfl; (focus (decide +kernel)); exact rfl) | ((with_reducible apply Step.nilp); exact rfl; exact rfl) | ((with_reducible apply Step.buildS 0); exact rfl; exact rfl; exact (fun _ _ => bs30e); exact rfl; (focus (first | (simp only [List.nil_append, List.cons_append, List.set_cons_zero, List.set_cons_succ, iv_set, bv_set, iv_rep, bv_rep]; done) | (simp only [List.nil_append, List.cons_append, List.set_cons_zero, List.set_cons_succ, iv_set, bv_set, iv_rep, bv_rep]; rfl) | rfl)))) | ((with_reducible apply AW.seq)) | ((with_reducible apply AW.regL))))
    ((with_reducible apply Step.appRow (s := 1) (n := 0) (xl := B.length) (b0 := M1.length) (c := [])); exact rfl; exact rfl; exact (.inr ⟨M1.length + 0, .own, 1, by omega, rfl, by rw [get_app]; rfl, rfl, .inl rfl⟩); exact sl1; exact (fun _ => hrdl.old _); exact el30; exact un30; (focus (simp [sv])); exact (sv_one B); exact rfl; (focus (omega)); exact rfl; (focus (simp)))
    intro ux Mx hrow hlx hkx
    obtain ⟨Nx, hNx⟩ : ∃ N, Mx = M1 ++ N := pre_keep ⟨_, rfl⟩ hlx fun j hj => hkx j (by rw [List.length_append]; omega) (fun n c e => by injection e with e _ _; injection e with e; injection e with e _ _; omega)
    have hx0 : Strs Mx ux B := row_strs (by rw [List.nil_append] at hrow; exact hrow) (Nat.zero_add _) (by rw [hNx, List.length_append]; omega)
    obtain ⟨A4, O4, sl4, la4, rd4⟩ := id hpc
    (repeat (first | (with_reducible refine AWo.cons ?_) | ((with_reducible refine Step.id ?_); first | ((with_reducible apply Step.move); exact rfl; exact rfl) | ((with_reducible apply Step.assign); exact rfl; exact rfl) | ((with_reducible apply Step.len); exact rfl; (focus (assumption)); (focus (decide +kernel)); exact rfl)) | (with_reducible refine AWo.nil ?_) | ((with_reducible apply AW.seq)) | ((with_reducible apply Then.n)) | ((with_reducible apply AW.regL)) | ((with_reducible apply AW.block))))
    refine AW.loopW (fun n t M' => ∃ (i : Nat) (uy : Value), n = l.length - i ∧ i ≤ l.length ∧ (∃ N, M' = M1 ++ N) ∧ Strs M' uy (punchT B l i) ∧
      t = fr [(11, uy), (31, u), (32, .int .i64 (l.length : Nat)), (33, .int .i64 (i : Nat))])
      ⟨_, _, (by repeat (first | exact trivial | (refine And.intro rfl ?_))), 0, ux, rfl, Nat.zero_le _, ⟨_, hNx⟩, hx0, rfl⟩ ?_
    rintro n t M' ⟨i, uy, rfl, hi, ⟨N', hN'⟩, hsy, rfl⟩
    rcases Nat.lt_or_ge i l.length with hlt | hge
    · have rp : ∀ T, RdL (M' ++ T) A4 (O4 + i * 6) (plc1 (l.getD i default)) := fun T => by rw [hN', List.append_assoc]; exact (rd4 i hlt).old _
      have hmem : l.getD i default ∈ l := by rw [getD_in _ _ hlt]; exact List.getElem_mem hlt
      obtain ⟨_, hx, _, _⟩ := hl3 _ hmem
      obtain ⟨q1, q2, q3⟩ := punchT_board hgb l i
      have hP := fun T => Punch_ok (r := (l.getD i default).2.1) (hsy.old T) (board_skin q1) (by rw [q2, q3]; exact hx)
      have hnx : punch (punchT B l i) (l.getD i default).2.1 = punchT B l (i + 1) := rfl
      rw [hnx] at hP
      generalize l.getD i default = y at *
      obtain ⟨yk, yr, yt⟩ := y
      simp only at hP hx
      change ∀ T, ACall Tryd.prog 91 #[_, .agg yr.rc.cells.toArray] _ _ at hP
      simp only [plc1] at rp
      generalize hyr : yr.rc = rc at *
      obtain ⟨rx, ry, rw', rh⟩ := rc
      simp only [Rc.cells, List.cons_append, List.nil_append] at rp hP
      refine AW.rebase ?_
      have rq : ∀ T, RdL (M' ++ (some { cells := [.int .i64 (yk : Nat), .int .i64 rx, .int .i64 ry, .int .i64 rw', .int .i64 rh, .bool yt] } :: T)) (M'.length + 0) (0 + 1) [.int .i64 rx, .int .i64 ry, .int .i64 rw', .int .i64 rh] := fun T => ⟨_, by rw [get_app]; rfl, fun j v hj => by rcases j with _ | _ | _ | _ | j <;> first | exact hj | (simp at hj)⟩
      (repeat (first | (with_reducible refine AWo.cons ?_) | ((with_reducible refine Step.id ?_); first | ((with_reducible apply Step.move); exact rfl; exact rfl) | ((with_reducible apply Step.loadL (n := 4)); exact rfl; (focus (decide +kernel)); (focus (decide +kernel)); exact rfl; (focus (exact rq _)); exact rfl; exact rfl) | ((with_reducible apply Step.loadL (n := 6)); exact rfl; (focus (decide +kernel)); (focus (decide +kernel)); exact rfl; (focus (exact rp _)); exact rfl; exact rfl) | ((with_reducible apply Step.ix (s := 6)); exact rfl; (focus (assumption)); exact rfl; (focus (decide +kernel)); exact rfl; (focus (omega))) | ((with_reducible apply Step.field (k := 1)); exact rfl; (focus (decide +kernel)); exact rfl) | ((with_reducible apply Step.lss); exact rfl; exact rfl; exact rfl) | ((with_reducible apply Step.alloc 0); exact rfl; exact ze81; exact rfl; (focus (first | (simp only [List.nil_append, List.cons_append, List.set_cons_zero, List.set_cons_succ, iv_set, bv_set, iv_rep, bv_rep]; done) | (simp only [List.nil_append, List.cons_append, List.set_cons_zero, List.set_cons_succ, iv_set, bv_set, iv_rep, bv_rep]; rfl) | rfl))) | ((with_reducible apply Step.storeA (k := 0) (n := 6)); exact rfl; exact rfl; exact rfl; exact rfl; (focus (decide +kernel)); exact rfl; (focus (kernel_rfl)); exact rfl; (focus (first | (simp only [List.nil_append, List.cons_append, List.set_cons_zero, List.set_cons_succ, iv_set, bv_set, iv_rep, bv_rep]; done) | (simp only [List.nil_append, List.cons_append, List.set_cons_zero, List.set_cons_succ, iv_set, bv_set, iv_rep, bv_rep]; rfl) | rfl)))) | (with_reducible refine AWo.nil ?_) | ((with_reducible apply AW.seq)) | ((with_reducible apply Then.n)) | ((with_reducible apply AW.regL)) | ((with_reducible apply AW.block)) | ((with_reducible apply AW.skip)) | ((with_reducible apply AW.condT); exact rfl; (focus ((simp only [decide_eq_true_eq, decide_eq_false_iff_not, Bool.not_eq_true', Bool.not_eq_false', Bool.not_true, Bool.not_false]; first | assumption | omega))))))
      ((with_reducible apply Step.callX fit); exact rfl; exact Tryd.func91; exact rfl; exact rfl; exact (hP _))
      rintro _ M2 ⟨N2, hN2⟩ ⟨u2, rfl, hs2⟩
      (repeat (first | (with_reducible refine AWo.cons ?_) | ((with_reducible refine Step.id ?_); first | ((with_reducible apply Step.move); exact rfl; exact rfl) | ((with_reducible apply Step.assign); exact rfl; exact rfl) | ((with_reducible apply Step.add); exact rfl; exact rfl; (focus (omega)); exact rfl) | ((with_reducible apply Step.extract); exact rfl; exact rfl; exact rfl)) | (with_reducible refine AWo.nil ?_) | ((with_reducible apply Then.n)) | ((with_reducible apply AW.regL)) | ((with_reducible apply InBlk.n))))
      exact ⟨_, _, by omega, (by repeat (first | exact trivial | (refine And.intro rfl ?_))), i + 1, u2, rfl, by omega, by rw [hN2, hN']; exact ⟨_, by simp only [List.append_assoc]; rfl⟩, hs2.old _, rfl⟩
    · obtain rfl : i = l.length := by omega
      (repeat (first | (with_reducible refine AWo.cons ?_) | ((with_reducible refine Step.id ?_); first | ((with_reducible apply Step.move); exact rfl; exact rfl) | ((with_reducible apply Step.assign); exact rfl; exact rfl) | ((with_reducible apply Step.lss); exact rfl; exact rfl; exact rfl)) | (with_reducible refine AWo.nil ?_) | ((with_reducible apply AW.seq)) | ((with_reducible apply Then.n)) | ((with_reducible apply AW.regL)) | ((with_reducible apply AW.exit)) | ((with_reducible apply InBlk.hit)) | ((with_reducible apply Then.e)) | ((with_reducible apply AW.condF); exact rfl; (focus ((simp only [decide_eq_true_eq, decide_eq_false_iff_not, Bool.not_eq_true', Bool.not_eq_false', Bool.not_true, Bool.not_false]; first | assumption | omega))))))
      (refine AW.ret ?_; (repeat (first | refine Then.r ?_ | refine InBlk.r ?_)))
      exact ⟨_, rfl, N1 ++ N', by rw [hN', hN1, List.append_assoc], _, rfl, hsy⟩
  · have hc : rstM B (l, e) = [] := by unfold rstM; rw [if_neg he]
    rw [hc]
    (repeat (first | (with_reducible refine AWo.cons ?_) | ((with_reducible refine Step.id ?_); first | ((with_reducible apply Step.move); exact rfl; exact rfl) | ((with_reducible apply Step.assign); exact rfl; exact rfl) | ((with_reducible apply Step.neq); exact rfl; exact rfl; exact rfl) | ((with_reducible apply Step.extract); exact rfl; exact rfl; exact rfl)) | (with_reducible refine AWo.nil ?_) | ((with_reducible apply AW.seq)) | ((with_reducible apply Then.n)) | ((with_reducible apply AW.regL)) | ((with_reducible apply AW.condT); exact rfl; (focus ((simp only [decide_eq_true_eq, decide_eq_false_iff_not, Bool.not_eq_true', Bool.not_eq_false', Bool.not_true, Bool.not_false]; first | assumption | omega))))))
    (refine AW.ret ?_; (repeat (first | refine Then.r ?_ | refine InBlk.r ?_)))
    exact ⟨_, rfl, N1, by rw [hN1], _, rfl, strs_nil (by rw [hN1, List.length_append]; omega)⟩
set_option maxHeartbeats 8000000 in
set_option maxRecDepth 100000 in
theorem RRest_ok {m : AM} {sv0 kv v : Value} {B : Brd} {K : List Kd} {ps : List Nd} (hs : Strs m sv0 B) (hk : Kds m kv K) (hv : PN m v ps) (hlen : ps.length ≤ 1000000) :
    ACall Tryd.prog 50 #[sv0, kv, v] m (More (fun M w => ∃ u, w = .tuple #[u, .int .i64 (rdgM B K ps).2] ∧ Strs M u (rstM B (rdgM B K ps))) m) := by
  have hR := RRead_ok hs hk hv hlen
  have hM : 0 < m.length := by obtain ⟨A1, O1, sl1, la1, rd1⟩ := hs; omega
  obtain ⟨hl1, hl2, hl3⟩ := rdgM_all (B := B) (K := K) (ps := ps)
  have hgd := rdg_good (B := B) (K := K) (ps := ps)
  generalize rdgM B K ps = x at *
  obtain ⟨l, e⟩ := x
  simp only at hR hl1 hl2 hl3 hgd ⊢
  refine ACall.start Tryd.func50 rfl rfl ?_
  (repeat (first | (with_reducible refine AWo.cons ?_) | ((with_reducible refine Step.id ?_); first | ((with_reducible apply Step.move); exact rfl; exact rfl) | ((with_reducible apply Step.assign); exact rfl; exact rfl)) | (with_reducible refine AWo.nil ?_) | ((with_reducible apply AW.seq)) | ((with_reducible apply Then.n)) | ((with_reducible apply AW.regL))))
  rw [List.append_nil]
  ((with_reducible apply Step.callX fit); exact rfl; exact Tryd.func46; exact rfl; exact rfl; exact hR)
  rintro _ M1 ⟨N1, hN1⟩ ⟨u, rfl, hpc⟩
  clear hR
  rw [List.append_nil]
  have hml : 0 < M1.length := by rw [hN1, List.length_append]; omega
  by_cases he : e = 0
  · subst he
    have hg := hgd rfl
    have hgb : boardB B = true := by simp only [goodB, Bool.and_eq_true] at hg; exact hg.1
    have hin := good_in hgb
    have hb0 : 0 < B.length := hin.1
    have hb16 : B.length ≤ 16 := hin.2.1
    have hrs : Strs M1 sv0 B := by rw [hN1]; exact hs.old _
    obtain ⟨A1, O1, sl1, la1, rd1⟩ := hrs
    have hrdl : RdL M1 A1 O1 (sv B) := strs_rdl hb0 rd1
    have hr0 : rstM B (l, 0) = punchT B l l.length := rfl
    rw [hr0]
    (repeat (first | (with_reducible refine AWo.cons ?_) | ((with_reducible refine Step.id ?_); first | ((with_reducible apply Step.move); exact rfl; exact rfl) | ((with_reducible apply Step.assign); exact rfl; exact rfl) | ((with_reducible apply Step.neq); exact rfl; exact rfl; exact rfl) | ((with_reducible apply Step.extract); exact rfl; exact rfl; exact rfl)) | (with_reducible refine AWo.nil ?_) | ((fail_if_success (with_reducible refine AW.atR (id := 4) ?_)); ((with_reducible apply AW.seq))) | ((with_reducible apply Then.n)) | ((with_reducible apply AW.regL)) | ((with_reducible apply AW.skip)) | ((with_reducible apply AW.condF); exact rfl; (focus (rfl)))))
    refine AW.rebase ?_
    (repeat (first | (with_reducible refine AWo.cons ?_) | ((with_reducible refine Step.id ?_); first | ((with_reducible apply Step.move); exact rfl; exact rfl) | ((with_reducible apply Step.buildS 0); exact rfl; exact rfl; exact (fun _ _ => bs30e); exact rfl; (focus (first | (simp only [List.nil_append, List.cons_append, List.set_cons_zero, List.set_cons_succ, iv_set, bv_set, iv_rep, bv_rep]; done) | (simp only [List.nil_append, List.cons_append, List.set_cons_zero, List.set_cons_succ, iv_set, bv_set, iv_rep, bv_rep]; rfl) | rfl)))) | ((with_reducible apply AW.seq)) | ((with_reducible apply AW.regL))))
    ((with_reducible apply Step.appRow (s := 1) (n := 0) (xl := B.length) (b0 := M1.length) (c := [])); exact rfl; exact rfl; exact (.inr ⟨M1.length + 0, .own, 1, by omega, rfl, by rw [get_app]; rfl, rfl, .inl rfl⟩); exact sl1; exact (fun _ => hrdl.old _); exact el30; exact un30; (focus (simp [sv])); exact (sv_one B); exact rfl; (focus (omega)); exact rfl; (focus (simp)))
    intro ux Mx hrow hlx hkx
    obtain ⟨Nx, hNx⟩ : ∃ N, Mx = M1 ++ N := pre_keep ⟨_, rfl⟩ hlx fun j hj => hkx j (by rw [List.length_append]; omega) (fun n c e => by injection e with e _ _; injection e with e; injection e with e _ _; omega)
    have hx0 : Strs Mx ux B := row_strs (by rw [List.nil_append] at hrow; exact hrow) (Nat.zero_add _) (by rw [hNx, List.length_append]; omega)
    obtain ⟨A4, O4, sl4, la4, rd4⟩ := id hpc
    (repeat (first | (with_reducible refine AWo.cons ?_) | ((with_reducible refine Step.id ?_); first | ((with_reducible apply Step.move); exact rfl; exact rfl) | ((with_reducible apply Step.assign); exact rfl; exact rfl) | ((with_reducible apply Step.len); exact rfl; (focus (assumption)); (focus (decide +kernel)); exact rfl)) | (with_reducible refine AWo.nil ?_) | ((with_reducible apply AW.seq)) | ((with_reducible apply Then.n)) | ((with_reducible apply AW.regL)) | ((with_reducible apply AW.block))))
    refine AW.loopW (fun n t M' => ∃ (i : Nat) (uy : Value), n = l.length - i ∧ i ≤ l.length ∧ (∃ N, M' = M1 ++ N) ∧ Strs M' uy (punchT B l i) ∧
      t = fr [(0, uy), (27, u), (28, .int .i64 (l.length : Nat)), (29, .int .i64 (i : Nat))])
      ⟨_, _, (by repeat (first | exact trivial | (refine And.intro rfl ?_))), 0, ux, rfl, Nat.zero_le _, ⟨_, hNx⟩, hx0, rfl⟩ ?_
    rintro n t M' ⟨i, uy, rfl, hi, ⟨N', hN'⟩, hsy, rfl⟩
    rcases Nat.lt_or_ge i l.length with hlt | hge
    · have rp : ∀ T, RdL (M' ++ T) A4 (O4 + i * 6) (plc1 (l.getD i default)) := fun T => by rw [hN', List.append_assoc]; exact (rd4 i hlt).old _
      have hmem : l.getD i default ∈ l := by rw [getD_in _ _ hlt]; exact List.getElem_mem hlt
      obtain ⟨_, hx, _, _⟩ := hl3 _ hmem
      obtain ⟨q1, q2, q3⟩ := punchT_board hgb l i
      have hP := fun T => RPunch_ok (r := (l.getD i default).2.1) (hsy.old T) (board_skin q1) (by rw [q2, q3]; exact hx)
      have hnx : punch (punchT B l i) (l.getD i default).2.1 = punchT B l (i + 1) := rfl
      rw [hnx] at hP
      generalize l.getD i default = y at *
      obtain ⟨yk, yr, yt⟩ := y
      simp only at hP hx
      change ∀ T, ACall Tryd.prog 92 #[_, .agg yr.rc.cells.toArray] _ _ at hP
      simp only [plc1] at rp
      generalize hyr : yr.rc = rc at *
      obtain ⟨rx, ry, rw', rh⟩ := rc
      simp only [Rc.cells, List.cons_append, List.nil_append] at rp hP
      refine AW.rebase ?_
      have rq : ∀ T, RdL (M' ++ (some { cells := [.int .i64 (yk : Nat), .int .i64 rx, .int .i64 ry, .int .i64 rw', .int .i64 rh, .bool yt] } :: T)) (M'.length + 0) (0 + 1) [.int .i64 rx, .int .i64 ry, .int .i64 rw', .int .i64 rh] := fun T => ⟨_, by rw [get_app]; rfl, fun j v hj => by rcases j with _ | _ | _ | _ | j <;> first | exact hj | (simp at hj)⟩
      (repeat (first | (with_reducible refine AWo.cons ?_) | ((with_reducible refine Step.id ?_); first | ((with_reducible apply Step.move); exact rfl; exact rfl) | ((with_reducible apply Step.loadL (n := 4)); exact rfl; (focus (decide +kernel)); (focus (decide +kernel)); exact rfl; (focus (exact rq _)); exact rfl; exact rfl) | ((with_reducible apply Step.loadL (n := 6)); exact rfl; (focus (decide +kernel)); (focus (decide +kernel)); exact rfl; (focus (exact rp _)); exact rfl; exact rfl) | ((with_reducible apply Step.ix (s := 6)); exact rfl; (focus (assumption)); exact rfl; (focus (decide +kernel)); exact rfl; (focus (omega))) | ((with_reducible apply Step.field (k := 1)); exact rfl; (focus (decide +kernel)); exact rfl) | ((with_reducible apply Step.lss); exact rfl; exact rfl; exact rfl) | ((with_reducible apply Step.alloc 0); exact rfl; exact ze82; exact rfl; (focus (first | (simp only [List.nil_append, List.cons_append, List.set_cons_zero, List.set_cons_succ, iv_set, bv_set, iv_rep, bv_rep]; done) | (simp only [List.nil_append, List.cons_append, List.set_cons_zero, List.set_cons_succ, iv_set, bv_set, iv_rep, bv_rep]; rfl) | rfl))) | ((with_reducible apply Step.storeA (k := 0) (n := 6)); exact rfl; exact rfl; exact rfl; exact rfl; (focus (decide +kernel)); exact rfl; (focus (kernel_rfl)); exact rfl; (focus (first | (simp only [List.nil_append, List.cons_append, List.set_cons_zero, List.set_cons_succ, iv_set, bv_set, iv_rep, bv_rep]; done) | (simp only [List.nil_append, List.cons_append, List.set_cons_zero, List.set_cons_succ, iv_set, bv_set, iv_rep, bv_rep]; rfl) | rfl)))) | (with_reducible refine AWo.nil ?_) | ((with_reducible apply AW.seq)) | ((with_reducible apply Then.n)) | ((with_reducible apply AW.regL)) | ((with_reducible apply AW.block)) | ((with_reducible apply AW.skip)) | ((with_reducible apply AW.condT); exact rfl; (focus ((simp only [decide_eq_true_eq, decide_eq_false_iff_not, Bool.not_eq_true', Bool.not_eq_false', Bool.not_true, Bool.not_false]; first | assumption | omega))))))
      ((with_reducible apply Step.callX fit); exact rfl; exact Tryd.func92; exact rfl; exact rfl; exact (hP _))
      rintro _ M2 ⟨N2, hN2⟩ ⟨u2, rfl, hs2⟩
      (repeat (first | (with_reducible refine AWo.cons ?_) | ((with_reducible refine Step.id ?_); first | ((with_reducible apply Step.move); exact rfl; exact rfl) | ((with_reducible apply Step.assign); exact rfl; exact rfl) | ((with_reducible apply Step.add); exact rfl; exact rfl; (focus (omega)); exact rfl) | ((with_reducible apply Step.extract); exact rfl; exact rfl; exact rfl)) | (with_reducible refine AWo.nil ?_) | ((with_reducible apply Then.n)) | ((with_reducible apply AW.regL)) | ((with_reducible apply InBlk.n))))
      exact ⟨_, _, by omega, (by repeat (first | exact trivial | (refine And.intro rfl ?_))), i + 1, u2, rfl, by omega, by rw [hN2, hN']; exact ⟨_, by simp only [List.append_assoc]; rfl⟩, hs2.old _, rfl⟩
    · obtain rfl : i = l.length := by omega
      (repeat (first | (with_reducible refine AWo.cons ?_) | ((with_reducible refine Step.id ?_); first | ((with_reducible apply Step.move); exact rfl; exact rfl) | ((with_reducible apply Step.assign); exact rfl; exact rfl) | ((with_reducible apply Step.lss); exact rfl; exact rfl; exact rfl)) | (with_reducible refine AWo.nil ?_) | ((with_reducible apply AW.seq)) | ((with_reducible apply Then.n)) | ((with_reducible apply AW.regL)) | ((with_reducible apply AW.exit)) | ((with_reducible apply InBlk.hit)) | ((with_reducible apply Then.e)) | ((with_reducible apply AW.condF); exact rfl; (focus ((simp only [decide_eq_true_eq, decide_eq_false_iff_not, Bool.not_eq_true', Bool.not_eq_false', Bool.not_true, Bool.not_false]; first | assumption | omega))))))
      (refine AW.ret ?_; (repeat (first | refine Then.r ?_ | refine InBlk.r ?_)))
      exact ⟨_, rfl, N1 ++ N', by rw [hN', hN1, List.append_assoc], _, rfl, hsy⟩
  · have hc : rstM B (l, e) = [] := by unfold rstM; rw [if_neg he]
    rw [hc]
    (repeat (first | (with_reducible refine AWo.cons ?_) | ((with_reducible refine Step.id ?_); first | ((with_reducible apply Step.move); exact rfl; exact rfl) | ((with_reducible apply Step.assign); exact rfl; exact rfl) | ((with_reducible apply Step.neq); exact rfl; exact rfl; exact rfl) | ((with_reducible apply Step.extract); exact rfl; exact rfl; exact rfl)) | (with_reducible refine AWo.nil ?_) | ((with_reducible apply AW.seq)) | ((with_reducible apply Then.n)) | ((with_reducible apply AW.regL)) | ((with_reducible apply AW.condT); exact rfl; (focus ((simp only [decide_eq_true_eq, decide_eq_false_iff_not, Bool.not_eq_true', Bool.not_eq_false', Bool.not_true, Bool.not_false]; first | assumption | omega))))))
    (refine AW.ret ?_; (repeat (first | refine Then.r ?_ | refine InBlk.r ?_)))
    exact ⟨_, rfl, N1, by rw [hN1], _, rfl, strs_nil (by rw [hN1, List.length_append]; omega)⟩
set_option maxRecDepth 100000 in
theorem equalS_ok {m : AM} {v w : Value} {l : Brd} (hl : Strs m v l) (hk : Strs m w l) (hlen : l.length ≤ 9223372036854775807) : ACall Tryd.prog 51 #[v, w] m (Ret (.bool true) m) := by
  obtain ⟨a, o, h1, h2, h3⟩ := hl
  obtain ⟨c, u, k1, k2, k3⟩ := hk
  refine ACall.start Tryd.func51 rfl rfl ?_
  (repeat (first | (with_reducible refine AWo.cons ?_) | ((with_reducible refine Step.id ?_); first | ((with_reducible apply Step.move); exact rfl; exact rfl) | ((with_reducible apply Step.assign); exact rfl; exact rfl) | ((with_reducible apply Step.neq); exact rfl; exact rfl; exact rfl) | ((with_reducible apply Step.len); exact rfl; (focus (assumption)); (focus (decide +kernel)); exact rfl)) | (with_reducible refine AWo.nil ?_) | ((with_reducible apply AW.seq)) | ((with_reducible apply Then.n)) | ((with_reducible apply AW.regL)) | ((with_reducible apply AW.block)) | ((with_reducible apply AW.skip)) | ((with_reducible apply AW.condF); exact rfl; (focus ((simp; done))))))
  refine AW.loopT (fun n t L => ∃ i : Nat, n = l.length - i ∧ i ≤ l.length ∧ L = [] ∧
    t = [(0, v), (1, w), (12, .int .i64 (l.length : Nat)), (13, .int .i64 (i : Nat))]) ⟨_, _, _, (Or.inl ⟨rfl, (by repeat (first | exact trivial | (refine And.intro rfl ?_)))⟩), 0, rfl, Nat.zero_le _, rfl, rfl⟩ ?_
  rintro n t L ⟨i, rfl, hi, rfl, rfl⟩
  rcases Nat.lt_or_ge i l.length with hlt | hge
  · have r1 := h3 i hlt
    have r2 := k3 i hlt
    have hb : ((rowOf l i).toList == (rowOf l i).toList) = true := beq_self_eq_true _
    generalize rowOf l i = x at *
    (repeat (first | (with_reducible refine AWo.cons ?_) | ((with_reducible refine Step.id ?_); first | ((with_reducible apply Step.move); exact rfl; exact rfl) | ((with_reducible apply Step.assign); exact rfl; exact rfl) | ((with_reducible apply Step.load); exact rfl; (focus (decide +kernel)); exact rfl; (focus (exact Rd.old _ (by assumption)))) | ((with_reducible apply Step.ix1); exact rfl; (focus (assumption)); exact rfl; (focus (decide +kernel)); exact rfl; (focus (omega))) | ((with_reducible apply Step.neqS); exact rfl; exact rfl; exact un9; exact rfl) | ((with_reducible apply Step.add); exact rfl; exact rfl; (focus (omega)); exact rfl) | ((with_reducible apply Step.lss); exact rfl; exact rfl; exact rfl)) | (with_reducible refine AWo.nil ?_) | ((with_reducible apply AW.seq)) | ((with_reducible apply Then.n)) | ((with_reducible apply AW.regL)) | ((with_reducible apply AW.block)) | ((with_reducible apply AW.drawL fit); (focus (decide +kernel))) | ((with_reducible apply InBlk.n)) | ((with_reducible apply AW.skip)) | ((with_reducible apply AW.condT); exact rfl; (focus ((simp only [decide_eq_true_eq, decide_eq_false_iff_not, Bool.not_eq_true', Bool.not_eq_false', Bool.not_true, Bool.not_false]; first | assumption | omega)))) | ((with_reducible apply AW.condF); exact rfl; (focus ((simp only [decide_eq_true_eq, decide_eq_false_iff_not, Bool.not_eq_true', Bool.not_eq_false', Bool.not_true, Bool.not_false]; first | assumption | omega))))))
    exact ⟨_, _, _, by omega, (Or.inl ⟨rfl, (by repeat (first | exact trivial | (refine And.intro rfl ?_)))⟩), i + 1, rfl, by omega, rfl, rfl⟩
  · (repeat (first | (with_reducible refine AWo.cons ?_) | ((with_reducible refine Step.id ?_); first | ((with_reducible apply Step.assign); exact rfl; exact rfl) | ((with_reducible apply Step.lss); exact rfl; exact rfl; exact rfl)) | (with_reducible refine AWo.nil ?_) | ((with_reducible apply AW.seq)) | ((with_reducible apply Then.n)) | ((with_reducible apply AW.regL)) | ((with_reducible apply AW.exit)) | ((with_reducible apply InBlk.hit)) | ((with_reducible apply Then.e)) | ((with_reducible apply AW.condF); exact rfl; (focus ((simp only [decide_eq_true_eq, decide_eq_false_iff_not, Bool.not_eq_true', Bool.not_eq_false', Bool.not_true, Bool.not_false]; first | assumption | omega))))))
    (refine AW.retD (l := [(4, _)]) (by repeat (first | exact trivial | (refine And.intro ⟨rfl, by (exact .bool _)⟩ ?_))) ?_; (repeat (first | refine Then.r ?_ | refine InBlk.r ?_)))
    exact ⟨_, rfl, rfl, rfl⟩
theorem forIn4 {α σ : Type} (x y z u : α) (s : σ) (f : α → σ → Sem (ForInStep σ)) : (forIn #[x, y, z, u] s f : Sem σ) = (do match ← f x s with | .done b => pure b | .yield b => match ← f y b with | .done b => pure b | .yield b => match ← f z b with | .done b => pure b | .yield b => match ← f u b with | .done b => pure b | .yield b => pure b) := by
  simp [List.forIn_cons, List.forIn_nil]
  exact congrArg (fun g => f x s >>= g) (funext fun u' => by
    cases u' with
    | done b => rfl
    | yield b => exact congrArg (fun g => f y b >>= g) (funext fun v => by
        cases v with
        | done b => rfl
        | yield b => exact congrArg (fun g => f z b >>= g) (funext fun w => by
            cases w with
            | done b => rfl
            | yield b => exact congrArg (fun g => f u b >>= g) (funext fun w => by cases w <;> rfl))))
def rcF : Array Field := #[⟨"X", 3, 0, false, "", "", 0⟩, ⟨"Y", 3, 1, false, "", "", 8⟩, ⟨"W", 3, 2, false, "", "", 16⟩, ⟨"H", 3, 3, false, "", "", 24⟩]
theorem un23s : Tryd.prog.underlying 23 = some (.struct rcF) := by kernel_rfl
theorem part_rc {c : Array Value} {x : Int} {k : Nat} (hk : c[k]? = some (.int .i64 x)) : Sim.still Tryd.prog (part 3 c k) = some (.int .i64 x) := by
  unfold part
  have ha : Sim.still Tryd.prog (isAgg 3) = some false := by kernel_rfl
  show Sim.still Tryd.prog (Sem.bind (isAgg 3) _) = _
  rw [still_bind, ha]
  simp only [hk]
  rfl
set_option maxRecDepth 100000 in
theorem still_eqR (n : Nat) (a b c d : Int) : Sim.still Tryd.prog (Op.equalIn (n + 1 + 1) 23 (.agg #[.int .i64 a, .int .i64 b, .int .i64 c, .int .i64 d]) (.agg #[.int .i64 a, .int .i64 b, .int .i64 c, .int .i64 d])) = some true := by
  have hs : Tryd.prog.stoodInHeld 23 = false := by kernel_rfl
  have h3 := fun (x y : Int) => still_eqI (P := Tryd.prog) un3 n x y
  have p0 := part_rc (c := #[.int .i64 a, .int .i64 b, .int .i64 c, .int .i64 d]) (k := 0) rfl
  have p1 := part_rc (c := #[.int .i64 a, .int .i64 b, .int .i64 c, .int .i64 d]) (k := 1) rfl
  have p2 := part_rc (c := #[.int .i64 a, .int .i64 b, .int .i64 c, .int .i64 d]) (k := 2) rfl
  have p3 := part_rc (c := #[.int .i64 a, .int .i64 b, .int .i64 c, .int .i64 d]) (k := 3) rfl
  rw [Op.equalIn]
  show Sim.still Tryd.prog (Sem.bind (underlying 23) _) = _
  rw [still_bind, still_und un23s]
  show Sim.still Tryd.prog (Sem.bind program _) = _
  have hp : Sim.still Tryd.prog program = some Tryd.prog := rfl
  rw [still_bind, hp]
  simp only [hs]
  unfold rcF
  simp only [forIn4]
  simp [bind, still_bind, p0, p1, p2, p3, h3, pure, Sim.still]
section
variable {nt : Nat} {ops : Array Oper} {t : Fm} {m : AM} {K : Fm → AM → Prop} {d T : Nat} {p : String} {af : Array Edge}
set_option maxRecDepth 100000 in
theorem Step.neqRc {x y : Operand} {Y : TypeId} {a b c e : Int} (hx : evo t x = some (.agg #[.int .i64 a, .int .i64 b, .int .i64 c, .int .i64 e])) (hy : evo t y = some (.agg #[.int .i64 a, .int .i64 b, .int .i64 c, .int .i64 e])) (hlt : Nat.blt d nt = true) (hK : K (put t d (.bool false)) m) : Step Tryd.prog nt ops ⟨some d, .binOp .neq 23 x y Y, T, p, af, none⟩ t m K := by
  refine .ground rfl rfl hlt (by simp [Op.operands, hx, hy, g1, g0]) (fun h => by simp only [aquiet, evD_of hx, evD_of hy, aint, anil, un23s]; simpa [evD_of hx, evD_of hy] using h) ?_ (by simp [g1, g0]) hK
  have he : Sim.still Tryd.prog (Op.equal 23 (.agg #[.int .i64 a, .int .i64 b, .int .i64 c, .int .i64 e]) (.agg #[.int .i64 a, .int .i64 b, .int .i64 c, .int .i64 e])) = some true := still_eqR 9998 a b c e
  have hgt : Tryd.prog.eqGuardType Tryd.prog.depth 23 = false := by kernel_rfl
  have hp : Sim.still Tryd.prog program = some Tryd.prog := rfl
  simp only [execOp, eqGuard, binOp, evD_of hx, evD_of hy, bind, Sem.bind, pure]
  simp [still_bind, hp, hgt, he, Sim.still]
end
end Go.Proofs.YtibhgdglbillaaaDoor.Abs
