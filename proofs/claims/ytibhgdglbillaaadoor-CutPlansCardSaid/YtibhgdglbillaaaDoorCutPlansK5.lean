/- Proved here: what the proof of CutPlans rests on, part 5 of 5. Conditions: those that each theorem names. -/
import Derived.Test.YtibhgdglbillaaaDoorCutPlansK4
namespace Go.Proofs.YtibhgdglbillaaaDoor.Abs
set_option linter.unusedSimpArgs false
set_option linter.unusedVariables false
open Go.RowKit
open Go.Proofs.YtibhgdglbillaaaDoor.Sim
open Go.Proofs
theorem ze69 : zeroB Tryd.prog 69 = some #[.slice none 0 0] := by kernel_rfl
theorem ze81 : zeroB Tryd.prog 81 = some #[.int .i64 0, .int .i64 0, .int .i64 0, .int .i64 0, .int .i64 0, .bool false] := by kernel_rfl
/-- Pieces in memory. -/
def Pcs (m : AM) (v : Value) (l : List Plc) : Prop := ∃ a o, Sl v a o l.length ∧ a < m.length ∧ ∀ i, i < l.length → RdL m a (o + i * 6) (plc1 (l.getD i default))
theorem Pcs.old {m : AM} {v : Value} {l : List Plc} (h : Pcs m v l) (L : AM) : Pcs (m ++ L) v l := by
  obtain ⟨a, o, h1, h2, h3⟩ := h
  exact ⟨a, o, h1, by rw [List.length_append]; omega, fun i hi => (h3 i hi).old L⟩
theorem Pcs.nil {m : AM} (hM : 0 < m.length) : Pcs m (.slice none 0 0) [] := ⟨0, 0, .inl ⟨rfl, rfl⟩, hM, fun i hi => by simp at hi⟩
theorem FD.pcs {b0 : Nat} {m : AM} {F A : Nat} {l : List Plc} (h : FD b0 m F A l) : ∃ v, Rd m F 0 v ∧ Pcs m v l := by
  obtain ⟨_, v, h2, h3⟩ := h
  refine ⟨v, ⟨_, h2, rfl⟩, ?_⟩
  have hl := (List.getElem?_eq_some_iff.1 h2).1
  rcases h3 with ⟨rfl, rfl⟩ | ⟨rfl, _, _, _, h4⟩
  · exact Pcs.nil (by omega)
  · exact ⟨A, 0, Sl.mk (Nat.le_refl _), (List.getElem?_eq_some_iff.1 h4).1, fun i hi => ⟨_, h4, fun j v hj => by rw [Nat.zero_add]; exact plc_get l i hi j v hj⟩⟩
/-- What reading a plan of the whole board comes to: the pieces, and the error. -/
def rdgM (B : Brd) (K : List Kd) (ps : List Nd) : List Plc × Int := if goodB B K = true then (match rdM B K 32 (wholeR B) ps with
    | some (l, []) => (l, 0)
    | _ => ([], 6)) else ([], 2)
set_option maxHeartbeats 8000000 in
set_option maxRecDepth 100000 in
theorem Reading_ok {m : AM} {sv kv v : Value} {B : Brd} {K : List Kd} {ps : List Nd} (hs : Strs m sv B) (hk : Kds m kv K) (hv : PN m v ps) (hlen : ps.length ≤ 1000000) :
    ACall Tryd.prog 87 #[sv, kv, v] m (More (fun M w => ∃ pv u, w = .tuple #[pv, u, .int .i64 (rdgM B K ps).2] ∧ Pcs M u (rdgM B K ps).1 ∧ ((rdgM B K ps).2 = 0 → ∃ p, pv = .pointer (some ⟨p, 0, none⟩) ∧ BoardAt M p B K)) m) := by
  have hM : 0 < m.length := by obtain ⟨A1, O1, sl1, la1, rd1⟩ := hs; omega
  cases hg : goodB B K with
  | false =>
    have hN := fun T => newBoard_no (hs.old T) (hk.old T) hg
    have e : rdgM B K ps = ([], 2) := by unfold rdgM; rw [if_neg (by simp [hg])]
    rw [e]
    refine ACall.start Tryd.func87 rfl rfl ?_
    (repeat (first | (with_reducible refine AWo.cons ?_) | ((with_reducible refine Step.id ?_); first | ((with_reducible apply Step.move); exact rfl; exact rfl) | ((with_reducible apply Step.assign); exact rfl; exact rfl) | ((with_reducible apply Step.ptrNil); exact rfl; exact rfl; exact un100; exact rfl) | ((with_reducible apply Step.callR fit); exact rfl; exact Tryd.func65; exact rfl; exact rfl; exact (hN _))) | (with_reducible refine AWo.nil ?_) | ((with_reducible apply AW.seq)) | ((with_reducible apply Then.n)) | ((with_reducible apply AW.regL)) | ((with_reducible apply AW.condT); exact rfl; (focus (rfl)))))
    (refine AW.ret ?_; (repeat (first | refine Then.r ?_ | refine InBlk.r ?_)))
    exact ⟨_, rfl, [], rfl, _, _, rfl, by rw [List.append_nil]; exact Pcs.nil hM, fun h => by cases h⟩
  | true =>
    have hgb : boardB B = true := by simp only [goodB, Bool.and_eq_true] at hg; exact hg.1
    have hin := good_in hgb
    have hok : (wholeR B).ok (bw B) (bh B) := by
      simp only [R4.ok, wholeR]
      omega
    have hsz : (wholeR B).size ≤ 32 := by
      simp only [R4.size, wholeR]
      omega
    unfold rdgM
    rw [if_pos hg]
    refine ACall.start Tryd.func87 rfl rfl ?_
    (repeat (first | (with_reducible refine AWo.cons ?_) | ((with_reducible refine Step.id ?_); first | ((with_reducible apply Step.move); exact rfl; exact rfl) | ((with_reducible apply Step.assign); exact rfl; exact rfl)) | (with_reducible refine AWo.nil ?_) | ((with_reducible apply AW.seq)) | ((with_reducible apply Then.n)) | ((with_reducible apply AW.regL))))
    ((with_reducible apply Step.callX fit); exact rfl; exact Tryd.func65; exact rfl; exact rfl; exact (newBoard_ok (hs.old _) (hk.old _) hg))
    rintro _ m1 ⟨N1, hN1⟩ ⟨p, hp, rfl, hB⟩
    have w1 := fun T => whole_ok (hB.old T)
    have hv1 : PN m1 v ps := by rw [hN1]; exact (hv.old _).old _
    have hm1 : ∃ N, m1 = m ++ N := ⟨N1, by rw [hN1, List.append_nil]⟩
    have hR := read_ok hg hB 32 (Nat.le_refl _) hok hsz (m := m1 ++ [some { cells := [.slice none 0 0] }]) (F := m1.length + 0) (A := m1.length + 0) (l := []) (v := v) (ps := ps) ⟨_, rfl⟩ ⟨by omega, _, by rw [get_app]; rfl, .inl ⟨rfl, rfl⟩⟩ hv1 (by simpa using hlen) (by simp)
    change ∀ T, ACall Tryd.prog 67 _ _ (Ret (.agg (wholeR B).rc.cells.toArray) _) at w1
    generalize (wholeR B).rc = rr at *
    generalize rdM B K 32 (wholeR B) ps = x at *
    clear hN1
    (repeat (first | (with_reducible refine AWo.cons ?_) | ((with_reducible refine Step.id ?_); first | ((with_reducible apply Step.move); exact rfl; exact rfl) | ((with_reducible apply Step.assign); exact rfl; exact rfl) | ((with_reducible apply Step.ptrNot); exact rfl; exact rfl; exact un100; exact rfl) | ((with_reducible apply Step.callR fit); exact rfl; exact Tryd.func67; exact rfl; exact rfl; exact (w1 _)) | ((with_reducible apply Step.alloc 0); exact rfl; exact ze69; exact rfl; (focus (first | (simp only [List.nil_append, List.cons_append, List.set_cons_zero, List.set_cons_succ, iv_set, bv_set, iv_rep, bv_rep]; done) | (simp only [List.nil_append, List.cons_append, List.set_cons_zero, List.set_cons_succ, iv_set, bv_set, iv_rep, bv_rep]; rfl) | rfl)))) | (with_reducible refine AWo.nil ?_) | ((with_reducible apply AW.seq)) | ((with_reducible apply Then.n)) | ((with_reducible apply AW.regL)) | ((with_reducible apply AW.skip)) | ((with_reducible apply AW.condF); exact rfl; (focus (rfl)))))
    ((with_reducible apply Step.callZ fit); exact rfl; exact Tryd.func106; exact rfl; exact rfl; exact hR)
    rintro _ M2 hR2
    cases x with
    | none =>
      obtain ⟨hN2, u, rfl⟩ := hR2
      (repeat (first | (with_reducible refine AWo.cons ?_) | ((with_reducible refine Step.id ?_); first | ((with_reducible apply Step.gdF); exact rfl; exact rfl; (focus (rfl))) | ((with_reducible apply Step.move); exact rfl; exact rfl) | ((with_reducible apply Step.assign); exact rfl; exact rfl) | ((with_reducible apply Step.not); exact rfl; exact rfl) | ((with_reducible apply Step.extract); exact rfl; exact rfl; exact rfl) | ((with_reducible apply Step.pickT); exact rfl; exact rfl; exact rfl; exact rfl; (focus (rfl)))) | (with_reducible refine AWo.nil ?_) | ((with_reducible apply AW.seq)) | ((with_reducible apply Then.n)) | ((with_reducible apply AW.regL)) | ((with_reducible apply AW.condT); exact rfl; (focus (rfl)))))
      (refine AW.ret ?_; (repeat (first | refine Then.r ?_ | refine InBlk.r ?_)))
      obtain ⟨N1, hN1⟩ := hm1
      obtain ⟨N, hN⟩ := hN2
      exact ⟨_, rfl, N1 ++ N, by rw [List.append_nil, hN, hN1, List.append_assoc], _, _, rfl, Pcs.nil (by rw [List.append_nil, hN, hN1]; simp; omega), fun h => by cases h⟩
    | some x =>
      obtain ⟨l, ps'⟩ := x
      obtain ⟨hN2, u, A', rfl, hP2, hF2, hA2, hA3, hK2⟩ := hR2
      rw [List.nil_append] at hF2
      obtain ⟨fv, hfv, hpc⟩ := hF2.pcs
      obtain ⟨a, o, sl, _⟩ := hP2
      have hfv' : ∀ T, Rd (M2 ++ T) (m1.length + 0) 0 fv := fun T => hfv.old T
      obtain ⟨q, c, rfl⟩ := sl.shape
      cases ps' with
      | nil =>
        change Sl (.slice q 0 c) a o 0 at sl
        (repeat (first | (with_reducible refine AWo.cons ?_) | ((with_reducible refine Step.id ?_); first | ((with_reducible apply Step.gdT); exact rfl; exact rfl; (focus (rfl))) | ((with_reducible apply Step.move); exact rfl; exact rfl) | ((with_reducible apply Step.assign); exact rfl; exact rfl) | ((with_reducible apply Step.load); exact rfl; (focus (decide +kernel)); exact rfl; (focus (exact hfv' _))) | ((with_reducible apply Step.gtr); exact rfl; exact rfl; exact rfl) | ((with_reducible apply Step.len); exact rfl; (focus (assumption)); (focus (decide +kernel)); exact rfl) | ((with_reducible apply Step.not); exact rfl; exact rfl) | ((with_reducible apply Step.extract); exact rfl; exact rfl; exact rfl) | ((with_reducible apply Step.pickF); exact rfl; exact rfl; exact rfl; exact rfl; (focus (rfl)))) | (with_reducible refine AWo.nil ?_) | ((with_reducible apply AW.seq)) | ((with_reducible apply Then.n)) | ((with_reducible apply AW.regL)) | ((with_reducible apply AW.drawL fit); (focus (decide +kernel))) | ((with_reducible apply AW.skip)) | ((with_reducible apply AW.condF); exact rfl; (focus (rfl)))))
        (refine AW.ret ?_; (repeat (first | refine Then.r ?_ | refine InBlk.r ?_)))
        obtain ⟨N1, hN1⟩ := hm1
        obtain ⟨N, hN⟩ := hN2
        exact ⟨_, rfl, N1 ++ N, by rw [List.append_nil, hN, hN1, List.append_assoc], _, _, rfl, by rw [List.append_nil]; exact hpc, fun _ => ⟨p, rfl, by rw [List.append_nil, hN]; exact hB.old _⟩⟩
      | cons y ps' =>
        change Sl (.slice q (ps'.length + 1) c) a o (ps'.length + 1) at sl
        (repeat (first | (with_reducible refine AWo.cons ?_) | ((with_reducible refine Step.id ?_); first | ((with_reducible apply Step.gdT); exact rfl; exact rfl; (focus (rfl))) | ((with_reducible apply Step.move); exact rfl; exact rfl) | ((with_reducible apply Step.assign); exact rfl; exact rfl) | ((with_reducible apply Step.gtr); exact rfl; exact rfl; exact rfl) | ((with_reducible apply Step.len); exact rfl; (focus (assumption)); (focus (decide +kernel)); exact rfl) | ((with_reducible apply Step.not); exact rfl; exact rfl) | ((with_reducible apply Step.extract); exact rfl; exact rfl; exact rfl) | ((with_reducible apply Step.pickF); exact rfl; exact rfl; exact rfl; exact rfl; (focus (rfl)))) | (with_reducible refine AWo.nil ?_) | ((with_reducible apply AW.seq)) | ((with_reducible apply Then.n)) | ((with_reducible apply AW.regL)) | ((with_reducible apply AW.condT); exact rfl; (focus ((simp only [decide_eq_true_eq, decide_eq_false_iff_not, Bool.not_eq_true', Bool.not_eq_false', Bool.not_true, Bool.not_false]; first | assumption | omega))))))
        (refine AW.ret ?_; (repeat (first | refine Then.r ?_ | refine InBlk.r ?_)))
        obtain ⟨N1, hN1⟩ := hm1
        obtain ⟨N, hN⟩ := hN2
        exact ⟨_, rfl, N1 ++ N, by rw [List.append_nil, hN, hN1, List.append_assoc], _, _, rfl, Pcs.nil (by rw [List.append_nil, hN, hN1]; simp; omega), fun h => by cases h⟩
theorem rdgM_all {B : Brd} {K : List Kd} {ps : List Nd} : (rdgM B K ps).1.length ≤ ps.length ∧ ((rdgM B K ps).1 = [] ∨ goodB B K = true) ∧ ∀ x ∈ (rdgM B K ps).1, x.1 < K.length ∧ x.2.1.ok (bw B) (bh B) ∧ okB B (K.getD x.1 default) x.2.1 = true ∧ turnedB (K.getD x.1 default) x.2.1 = x.2.2 := by
  unfold rdgM
  split
  · rename_i hg
    have hgb : boardB B = true := by simp only [goodB, Bool.and_eq_true] at hg; exact hg.1
    have hin := good_in hgb
    have hok : (wholeR B).ok (bw B) (bh B) := by
      simp only [R4.ok, wholeR]
      omega
    split
    · rename_i l e
      have := rdM_len 32 e
      exact ⟨by simp only; omega, .inr hg, rdM_all 32 hok e⟩
    · exact ⟨by simp, .inl rfl, fun x hx => by simp at hx⟩
  · exact ⟨by simp, .inl rfl, fun x hx => by simp at hx⟩
theorem worthL_take (K : List Kd) (l : List Plc) {i : Nat} (h : i < l.length) : worthL K (l.take (i + 1)) = worthL K (l.take i) + (K.getD (l.getD i default).1 default).worth := by
  rw [take_snoc l i default h, worthL_app]
  simp [worthL]
set_option maxHeartbeats 8000000 in
set_option maxRecDepth 100000 in
theorem Read_ok {m : AM} {sv kv v : Value} {B : Brd} {K : List Kd} {ps : List Nd} (hs : Strs m sv B) (hk : Kds m kv K) (hv : PN m v ps) (hlen : ps.length ≤ 1000000) :
    ACall Tryd.prog 41 #[sv, kv, v] m (More (fun M w => ∃ u, w = .tuple #[u, .int .i64 (worthL K (rdgM B K ps).1), .int .i64 (rdgM B K ps).2] ∧ Pcs M u (rdgM B K ps).1) m) := by
  have hR := Reading_ok hs hk hv hlen
  obtain ⟨hl1, hl2, hl3⟩ := rdgM_all (B := B) (K := K) (ps := ps)
  generalize rdgM B K ps = x at *
  obtain ⟨l, e⟩ := x
  simp only at hR hl1 hl2 hl3 ⊢
  refine ACall.start Tryd.func41 rfl rfl ?_
  (repeat (first | (with_reducible refine AWo.cons ?_) | ((with_reducible refine Step.id ?_); first | ((with_reducible apply Step.move); exact rfl; exact rfl) | ((with_reducible apply Step.assign); exact rfl; exact rfl)) | (with_reducible refine AWo.nil ?_) | ((with_reducible apply AW.seq)) | ((with_reducible apply Then.n)) | ((with_reducible apply AW.regL))))
  rw [List.append_nil]
  ((with_reducible apply Step.callX fit); exact rfl; exact Tryd.func87; exact rfl; exact rfl; exact hR)
  rintro _ M1 ⟨N1, hN1⟩ ⟨pv, u, rfl, hpc, _⟩
  have hk1 : Kds M1 kv K := by rw [hN1]; exact hk.old _
  clear hR
  (repeat (first | (with_reducible refine AWo.cons ?_) | ((with_reducible refine Step.id ?_); first | ((with_reducible apply Step.move); exact rfl; exact rfl) | ((with_reducible apply Step.assign); exact rfl; exact rfl) | ((with_reducible apply Step.extract); exact rfl; exact rfl; exact rfl)) | (with_reducible refine AWo.nil ?_) | ((with_reducible apply Then.n))))
  rw [List.append_nil]
  refine AW.rebase ?_
  obtain ⟨A1, O1, sl1, la1, rd1⟩ := hk1
  obtain ⟨q1, c1, rfl⟩ := sl1.shape
  have hpc' := hpc
  obtain ⟨A2, O2, sl2, la2, rd2⟩ := hpc
  obtain ⟨q2, c2, rfl⟩ := sl2.shape
  have w1 : Low M1.length (.slice q1 K.length c1) := Low.of_sl sl1 la1
  have w2 : Low M1.length (.slice q2 l.length c2) := Low.of_sl sl2 la2
  (repeat (first | (with_reducible refine AWo.cons ?_) | ((with_reducible refine Step.id ?_); first | ((with_reducible apply Step.move); exact rfl; exact rfl) | ((with_reducible apply Step.assign); exact rfl; exact rfl) | ((with_reducible apply Step.len); exact rfl; (focus (assumption)); (focus (decide +kernel)); exact rfl)) | (with_reducible refine AWo.nil ?_) | ((with_reducible apply AW.seq)) | ((with_reducible apply Then.n)) | ((with_reducible apply AW.regL)) | ((with_reducible apply AW.block))))
  refine AW.loopT (fun n t L => ∃ i : Nat, n = l.length - i ∧ i ≤ l.length ∧ L = [] ∧
    t = [(1, .slice q1 K.length c1), (10, .slice q2 l.length c2), (11, .int .i64 e), (12, .int .i64 (worthL K (l.take i))), (23, .slice q2 l.length c2), (24, .int .i64 (l.length : Nat)), (25, .int .i64 (i : Nat))])
    ⟨_, _, _, (Or.inl ⟨rfl, (by repeat (first | exact trivial | (refine And.intro rfl ?_)))⟩), 0, rfl, Nat.zero_le _, rfl, rfl⟩ ?_
  rintro n t L ⟨i, rfl, hi, rfl, rfl⟩
  rcases Nat.lt_or_ge i l.length with hlt | hge
  · have rp := rd2 i hlt
    have hmem : l.getD i default ∈ l := by rw [getD_in _ _ hlt]; exact List.getElem_mem hlt
    have hx := (hl3 _ hmem).1
    have hw := worthL_take K l hlt
    have hgd : goodB B K = true := by
      rcases hl2 with h | h
      · rw [h] at hlt; simp at hlt
      · exact h
    have hKb : kindsB K = true := by simp only [goodB, Bool.and_eq_true] at hgd; exact hgd.2
    have hwi := worthL_in hKb (l.take i) (fun y hy => (hl3 y (List.mem_of_mem_take hy)).1)
    have htk : (l.take i).length ≤ l.length := by rw [List.length_take]; omega
    have hkd := kdB_in (kinds_get hKb hx)
    have rk := (rd1 _ hx).at_ 3 rfl
    generalize worthL K (l.take i) = ws at *
    generalize l.getD i default = y at *
    obtain ⟨yk, yr, yt⟩ := y
    simp only at rk hx hkd
    generalize (K.getD yk default).worth = kw at *
    simp only [plc1, Rc.cells, List.cons_append, List.nil_append] at rp
    (repeat (first | (with_reducible refine AWo.cons ?_) | ((with_reducible refine Step.id ?_); first | ((with_reducible apply Step.move); exact rfl; exact rfl) | ((with_reducible apply Step.assign); exact rfl; exact rfl) | ((with_reducible apply Step.load); exact rfl; (focus (decide +kernel)); exact rfl; (focus (first | exact Rd.new rfl rfl | exact Rd.old _ (by assumption)))) | ((with_reducible apply Step.loadL (n := 6)); exact rfl; (focus (decide +kernel)); (focus (decide +kernel)); exact rfl; (focus (exact RdL.old _ (by assumption))); exact rfl; exact rfl) | ((with_reducible apply Step.ix (s := 5)); exact rfl; (focus (assumption)); exact rfl; (focus (decide +kernel)); exact rfl; (focus (omega))) | ((with_reducible apply Step.ix (s := 6)); exact rfl; (focus (assumption)); exact rfl; (focus (decide +kernel)); exact rfl; (focus (omega))) | ((with_reducible apply Step.field0); exact rfl; (focus (decide +kernel)); exact rfl) | ((with_reducible apply Step.field (k := 3)); exact rfl; (focus (decide +kernel)); exact rfl) | ((with_reducible apply Step.add); exact rfl; exact rfl; (focus (omega)); exact rfl) | ((with_reducible apply Step.lss); exact rfl; exact rfl; exact rfl) | ((with_reducible apply Step.alloc 0); exact rfl; exact ze81; exact rfl; (focus (first | (simp only [List.nil_append, List.cons_append, List.set_cons_zero, List.set_cons_succ, iv_set, bv_set, iv_rep, bv_rep]; done) | (simp only [List.nil_append, List.cons_append, List.set_cons_zero, List.set_cons_succ, iv_set, bv_set, iv_rep, bv_rep]; rfl) | rfl))) | ((with_reducible apply Step.storeA (k := 0) (n := 6)); exact rfl; exact rfl; exact rfl; exact rfl; (focus (decide +kernel)); exact rfl; (focus (kernel_rfl)); exact rfl; (focus (first | (simp only [List.nil_append, List.cons_append, List.set_cons_zero, List.set_cons_succ, iv_set, bv_set, iv_rep, bv_rep]; done) | (simp only [List.nil_append, List.cons_append, List.set_cons_zero, List.set_cons_succ, iv_set, bv_set, iv_rep, bv_rep]; rfl) | rfl)))) | (with_reducible refine AWo.nil ?_) | ((with_reducible apply AW.seq)) | ((with_reducible apply Then.n)) | ((with_reducible apply AW.regL)) | ((with_reducible apply AW.block)) | ((with_reducible apply InBlk.n)) | ((with_reducible apply AW.skip)) | ((with_reducible apply AW.condT); exact rfl; (focus ((simp only [decide_eq_true_eq, decide_eq_false_iff_not, Bool.not_eq_true', Bool.not_eq_false', Bool.not_true, Bool.not_false]; first | assumption | omega))))))
    exact ⟨_, [(1, .slice q1 K.length c1), (10, .slice q2 l.length c2), (11, .int .i64 e), (12, .int .i64 (ws + kw)), (23, .slice q2 l.length c2), (24, .int .i64 (l.length : Nat)), (25, .int .i64 (i + 1 : Nat))], [], by omega, (Back.trim rfl rfl (by repeat (exact CellsOk.nil)) (by repeat (first | exact trivial | (refine And.intro ⟨rfl, by (first | exact Low.rid (by assumption) (by simp) | exact .int _ _)⟩ ?_)))), i + 1, rfl, by omega, rfl, by rw [hw]⟩
  · obtain rfl : i = l.length := by omega
    (repeat (first | (with_reducible refine AWo.cons ?_) | ((with_reducible refine Step.id ?_); first | ((with_reducible apply Step.move); exact rfl; exact rfl) | ((with_reducible apply Step.assign); exact rfl; exact rfl) | ((with_reducible apply Step.lss); exact rfl; exact rfl; exact rfl)) | (with_reducible refine AWo.nil ?_) | ((with_reducible apply AW.seq)) | ((with_reducible apply Then.n)) | ((with_reducible apply AW.regL)) | ((with_reducible apply AW.exit)) | ((with_reducible apply InBlk.hit)) | ((with_reducible apply Then.e)) | ((with_reducible apply AW.condF); exact rfl; (focus ((simp only [decide_eq_true_eq, decide_eq_false_iff_not, Bool.not_eq_true', Bool.not_eq_false', Bool.not_true, Bool.not_false]; first | assumption | omega))))))
    (refine AW.ret ?_; (repeat (first | refine Then.r ?_ | refine InBlk.r ?_)))
    exact ⟨_, rfl, N1, by rw [List.append_nil]; exact hN1, _, by rw [List.take_of_length_le (Nat.le_refl _)], by rw [List.append_nil]; exact hpc'⟩
end Go.Proofs.YtibhgdglbillaaaDoor.Abs
namespace Go.Proofs.YtibhgdglbillaaaDoor.Abs
set_option linter.unusedSimpArgs false
set_option linter.unusedVariables false
open Go.Proofs
section
variable {B : Brd} {K : List Kd}
/-- The plan of the rule is a plan. -/
theorem rd_plan (hg : goodB B K = true) : ∀ (f : Nat) (r : R4), r.ok (bw B) (bh B) → r.size ≤ f → ∀ q : List Nd, ∃ l, rdM B K f r (plM B K f r ++ q) = some (l, q) ∧ worthL K l = V (leafM B K) r
  | 0, r, hr, hs, _ => by unfold R4.ok at hr; unfold R4.size at hs; omega
  | f + 1, r, hr, hs, q => by
    have cut : ∀ d, lq (ctQ B K r d) (r.len d - 1) < r.len d - 1 → ∃ l, rdM B K (f + 1) r ((((opI d, ((lq (ctQ B K r d) (r.len d - 1) + 1 : Nat) : Int), false) : Nd) :: (plM B K f (r.lo d (lq (ctQ B K r d) (r.len d - 1) + 1)) ++ plM B K f (r.hi d (lq (ctQ B K r d) (r.len d - 1) + 1)))) ++ q) = some (l, q) ∧ worthL K l = V (leafM B K) r := fun d hd => by
      have hq := lq_at hd
      generalize lq (ctQ B K r d) (r.len d - 1) = i at *
      unfold ctQ at hq
      rw [decide_eq_true_eq] at hq
      have h1 : 1 ≤ i + 1 := by omega
      have h2 : i + 1 + 1 ≤ r.len d := by omega
      obtain ⟨l2, e2, w2⟩ := rd_plan hg f _ (hi_ok hr h1 h2) (by have := hi_size hr h1 h2; omega) q
      obtain ⟨l1, e1, w1⟩ := rd_plan hg f _ (lo_ok hr h1 h2) (by have := lo_size hr h1 h2; omega) (plM B K f (r.hi d (i + 1)) ++ q)
      refine ⟨l1 ++ l2, ?_, by rw [worthL_app, w1, w2, hq]⟩
      rw [List.cons_append, List.append_assoc, rd_docut d h1 h2, e1]
      simp only
      rw [e2]
    simp only [plM]
    by_cases c0 : V (leafM B K) r = 0
    · rw [if_pos c0]
      exact ⟨[], by rw [List.cons_append, rd_waste rfl, if_pos ⟨rfl, rfl⟩]; rfl, by rw [c0]; rfl⟩
    · rw [if_neg c0]
      by_cases c1 : lq (pkQ B K r) K.length < K.length
      · rw [if_pos c1]
        have hq := lq_at c1
        generalize lq (pkQ B K r) K.length = k at *
        unfold pkQ at hq
        rw [Bool.and_eq_true, decide_eq_true_eq] at hq
        refine ⟨[(k, r, turnedB (K.getD k default) r)], ?_, ?_⟩
        · rw [List.cons_append, rd_piece rfl]
          simp only [Int.toNat_natCast, List.nil_append]
          rw [if_pos ⟨by omega, by omega, hq.1, trivial⟩]
        · simp only [worthL]
          omega
      · rw [if_neg c1]
        by_cases c2 : lq (ctQ B K r true) (r.len true - 1) < r.len true - 1
        · rw [if_pos c2]
          exact cut true c2
        · rw [if_neg c2]
          have c3 := plan_open hr c0 c1 c2
          rw [if_pos c3]
          exact cut false c3
/-- A plan has no more nodes than twice the cells. -/
theorem plM_area : ∀ (f : Nat) (r : R4), r.ok (bw B) (bh B) → r.size ≤ f → (plM B K f r).length + 1 ≤ 2 * (r.a * r.b)
  | 0, r, hr, hs => by unfold R4.ok at hr; unfold R4.size at hs; omega
  | f + 1, r, hr, hs => by
    have hp : 1 ≤ r.a * r.b := by
      unfold R4.ok at hr
      exact Nat.mul_pos (by omega) (by omega)
    have cut : ∀ d, lq (ctQ B K r d) (r.len d - 1) < r.len d - 1 → (plM B K f (r.lo d (lq (ctQ B K r d) (r.len d - 1) + 1)) ++ plM B K f (r.hi d (lq (ctQ B K r d) (r.len d - 1) + 1))).length + 1 + 1 ≤ 2 * (r.a * r.b) := fun d hd => by
      generalize lq (ctQ B K r d) (r.len d - 1) = i at *
      have h1 : 1 ≤ i + 1 := by omega
      have h2 : i + 1 + 1 ≤ r.len d := by omega
      have e1 := plM_area f _ (hi_ok hr h1 h2) (by have := hi_size hr h1 h2; omega)
      have e2 := plM_area f _ (lo_ok hr h1 h2) (by have := lo_size hr h1 h2; omega)
      have e3 : (r.lo d (i + 1)).a * (r.lo d (i + 1)).b + (r.hi d (i + 1)).a * (r.hi d (i + 1)).b = r.a * r.b := by
        unfold R4.lo R4.hi R4.len at *
        cases d
        · simp only [Bool.false_eq_true, if_false] at *
          rw [← Nat.mul_add]; congr 1; omega
        · simp only [if_true] at *
          rw [← Nat.add_mul]; congr 1; omega
      rw [List.length_append]
      omega
    simp only [plM]
    split
    · simp only [List.length_cons, List.length_nil]; omega
    · split
      · simp only [List.length_cons, List.length_nil]; omega
      · split
        · rename_i c
          exact cut true c
        · split
          · rename_i c
            exact cut false c
          · simp only [List.length_nil]; omega
theorem planM_le (hg : goodB B K = true) : (planM B K).length ≤ 512 := by
  have hgb : boardB B = true := by simp only [goodB, Bool.and_eq_true] at hg; exact hg.1
  have hin := good_in hgb
  have hok : (wholeR B).ok (bw B) (bh B) := by
    simp only [R4.ok, wholeR]
    omega
  have h1 := plM_area (K := K) 32 (wholeR B) hok (by simp only [R4.size, wholeR]; omega)
  have h2 : (wholeR B).a * (wholeR B).b ≤ 16 * 16 := Nat.mul_le_mul hin.2.2.2 hin.2.1
  unfold planM
  omega
theorem best_V (hg : goodB B K = true) : bestM B K = V (leafM B K) (wholeR B) := by
  have hgb : boardB B = true := by simp only [goodB, Bool.and_eq_true] at hg; exact hg.1
  have hin := good_in hgb
  have hok : (wholeR B).ok (bw B) (bh B) := by
    simp only [R4.ok, wholeR]
    omega
  exact (bestT_ok (leaf := leafM B K) hin.2.2.2 hin.2.1).dn _ hok
theorem inR_lo {r : R4} {d : Bool} {i u v : Nat} (h2 : i + 1 ≤ r.len d) (h : inR (r.lo d i) u v = true) : inR r u v = true := by
  unfold inR at *
  rw [decide_eq_true_eq] at *
  unfold R4.lo R4.len at *
  cases d <;> simp only [if_true, Bool.false_eq_true, if_false] at * <;> omega
theorem inR_hi {r : R4} {d : Bool} {i u v : Nat} (h2 : i + 1 ≤ r.len d) (h : inR (r.hi d i) u v = true) : inR r u v = true := by
  unfold inR at *
  rw [decide_eq_true_eq] at *
  unfold R4.hi R4.len at *
  cases d <;> simp only [if_true, Bool.false_eq_true, if_false] at * <;> omega
theorem inR_parts {r : R4} {d : Bool} {i u v : Nat} (h2 : i + 1 ≤ r.len d) : ¬ (inR (r.lo d i) u v = true ∧ inR (r.hi d i) u v = true) := by
  unfold inR
  rw [decide_eq_true_eq, decide_eq_true_eq]
  unfold R4.lo R4.hi R4.len at *
  cases d <;> simp only [if_true, Bool.false_eq_true, if_false] at * <;> omega
theorem rdM_inr : ∀ (f : Nat) {r : R4} {p p' : List Nd} {l : List Plc}, rdM B K f r p = some (l, p') → ∀ x ∈ l, ∀ u v, inR x.2.1 u v = true → inR r u v = true
  | 0, _, _, _, _, h => by simp [rdM] at h
  | _ + 1, _, [], _, _, h => by simp [rdM] at h
  | f + 1, r, n :: p, p', l, h => by
    rcases rdM_cut h with ⟨rfl, rfl⟩ | ⟨k, _, _, _, rfl, rfl⟩ | ⟨d, i, l1, p1, l2, i1, i2, e1, e2, rfl⟩
    · intro x hx; simp at hx
    · intro x hx u v hu
      simp at hx
      subst hx
      exact hu
    · intro x hx u v hu
      rcases List.mem_append.1 hx with hx | hx
      · exact inR_lo i2 (rdM_inr f e1 x hx u v hu)
      · exact inR_hi i2 (rdM_inr f e2 x hx u v hu)
/-- Two pieces have no cell in common. -/
def Apart (x y : Plc) : Prop := ∀ u v, ¬ (inR x.2.1 u v = true ∧ inR y.2.1 u v = true)
theorem rdM_pw : ∀ (f : Nat) {r : R4} {p p' : List Nd} {l : List Plc}, rdM B K f r p = some (l, p') → l.Pairwise Apart
  | 0, _, _, _, _, h => by simp [rdM] at h
  | _ + 1, _, [], _, _, h => by simp [rdM] at h
  | f + 1, r, n :: p, p', l, h => by
    rcases rdM_cut h with ⟨rfl, rfl⟩ | ⟨k, _, _, _, rfl, rfl⟩ | ⟨d, i, l1, p1, l2, i1, i2, e1, e2, rfl⟩
    · exact List.Pairwise.nil
    · exact List.pairwise_singleton _ _
    · refine List.pairwise_append.2 ⟨rdM_pw f e1, rdM_pw f e2, fun x hx y hy u v hu => inR_parts i2 ⟨rdM_inr f e1 x hx u v hu.1, rdM_inr f e2 y hy u v hu.2⟩⟩
end
theorem rdg_plan {B : Brd} {K : List Kd} (hg : goodB B K = true) : ∃ l, rdgM B K (planM B K) = (l, 0) ∧ worthL K l = bestM B K ∧ l.Pairwise Apart := by
  have hgb : boardB B = true := by simp only [goodB, Bool.and_eq_true] at hg; exact hg.1
  have hin := good_in hgb
  have hok : (wholeR B).ok (bw B) (bh B) := by
    simp only [R4.ok, wholeR]
    omega
  obtain ⟨l, h1, h2⟩ := rd_plan hg 32 (wholeR B) hok (by simp only [R4.size, wholeR]; omega) []
  rw [List.append_nil] at h1
  refine ⟨l, ?_, by rw [h2, best_V hg], rdM_pw 32 h1⟩
  unfold rdgM planM
  rw [if_pos hg, h1]
section
variable {B B' : Brd} {g : Int}
theorem cnt_same {x y a k : Nat} (h : ∀ i j, i < a → j < k → gr B (x + i) (y + j) = gr B' (x + i) (y + j)) : cnt B g x y a k = cnt B' g x y a k :=
  Nat.le_antisymm (cnt_mono k fun i j hi hj => by rw [h i j hi hj]; exact Int.le_refl _) (cnt_mono k fun i j hi hj => by rw [h i j hi hj]; exact Int.le_refl _)
theorem rowc_none {y x : Nat} : ∀ k, (∀ i, i < k → gr B (x + i) y < g) → rowc B g y x k = 0
  | 0, _ => rfl
  | k + 1, h => by
    have h1 := rowc_none k fun i hi => h i (by omega)
    have h2 := h k (by omega)
    simp only [rowc]
    rw [if_neg (by omega)]
    omega
theorem cnt_none {x y a : Nat} : ∀ k, (∀ i j, i < a → j < k → gr B (x + i) (y + j) < g) → cnt B g x y a k = 0
  | 0, _ => rfl
  | k + 1, h => by
    have h1 := cnt_none k fun i j hi hj => h i j hi (by omega)
    have h2 := rowc_none (B := B) (g := g) (y := y + k) (x := x) a fun i hi => h i k hi (by omega)
    simp only [cnt]; omega
theorem rowc_low {g' : Int} (hg : g' ≤ g) (y x : Nat) : ∀ k, rowc B g y x k ≤ rowc B g' y x k
  | 0 => Nat.le_refl _
  | k + 1 => by
    have h1 := rowc_low hg y x k
    simp only [rowc]
    split <;> split <;> omega
theorem cnt_low {g' : Int} (hg : g' ≤ g) (x y a : Nat) : ∀ k, cnt B g x y a k ≤ cnt B g' x y a k
  | 0 => Nat.le_refl _
  | k + 1 => by
    have h1 := cnt_low hg x y a k
    have h2 := rowc_low (B := B) hg (y + k) x a
    simp only [cnt]; omega
/-- The count of the board: of the rectangle, and of what lies around it. -/
theorem cnt_split (B : Brd) (g : Int) {r : R4} {w h : Nat} (hr : r.ok w h) : cnt B g 0 0 w h = cnt B g 0 0 w r.y + (cnt B g 0 r.y r.x r.b + cnt B g r.x r.y r.a r.b + cnt B g (r.x + r.a) r.y (w - r.x - r.a) r.b) + cnt B g 0 (r.y + r.b) w (h - r.y - r.b) := by
  unfold R4.ok at hr
  have e1 := cnt_addY B g 0 0 w r.y (r.b + (h - r.y - r.b))
  have e2 := cnt_addY B g 0 (0 + r.y) w r.b (h - r.y - r.b)
  have e3 := cnt_addX B g 0 (0 + r.y) r.x (r.a + (w - r.x - r.a)) r.b
  have e4 := cnt_addX B g (0 + r.x) (0 + r.y) r.a (w - r.x - r.a) r.b
  rw [show r.y + (r.b + (h - r.y - r.b)) = h by omega] at e1
  rw [show r.x + (r.a + (w - r.x - r.a)) = w by omega] at e3
  simp only [Nat.zero_add] at e1 e2 e3 e4
  omega
theorem gr_punch {r : R4} {x y : Nat} (hy : y < bh B) (hx : x < bw B) : gr (punch B r) x y = if inR r x y then 0 else gr B x y := by
  unfold gr
  rw [punch_byte hy hx]
  split <;> simp
theorem cnt_punch {r : R4} (hr : r.ok (bw B) (bh B)) (hg : 1 ≤ g) : cnt (punch B r) g 0 0 (bw B) (bh B) + cnt B g r.x r.y r.a r.b = cnt B g 0 0 (bw B) (bh B) := by
  have e1 := cnt_split (punch B r) g hr
  have e2 := cnt_split B g hr
  unfold R4.ok at hr
  have out : ∀ x y a k, x + a ≤ bw B → y + k ≤ bh B → (∀ i j, i < a → j < k → inR r (x + i) (y + j) = false) → cnt (punch B r) g x y a k = cnt B g x y a k := fun x y a k h1 h2 h3 => cnt_same fun i j hi hj => by
    rw [gr_punch (by omega) (by omega), if_neg (by rw [h3 i j hi hj]; simp)]
  have e3 := out 0 0 (bw B) r.y (by omega) (by omega) fun i j hi hj => decide_eq_false (by omega)
  have e4 := out 0 r.y r.x r.b (by omega) (by omega) fun i j hi hj => decide_eq_false (by omega)
  have e5 := out (r.x + r.a) r.y (bw B - r.x - r.a) r.b (by omega) (by omega) fun i j hi hj => decide_eq_false (by omega)
  have e6 := out 0 (r.y + r.b) (bw B) (bh B - r.y - r.b) (by omega) (by omega) fun i j hi hj => decide_eq_false (by omega)
  have e7 : cnt (punch B r) g r.x r.y r.a r.b = 0 := cnt_none r.b fun i j hi hj => by
    have hin : inR r (r.x + i) (r.y + j) = true := decide_eq_true (by omega)
    rw [gr_punch (by omega) (by omega), if_pos hin]
    omega
  omega
end
def areaT (l : List Plc) : Nat → Nat
  | 0 => 0
  | k + 1 => areaT l k + (l.getD k default).2.1.a * (l.getD k default).2.1.b
section
variable {B : Brd} {K : List Kd}
theorem gr_punchT (h : boardB B = true) (l : List Plc) {x y : Nat} (hy : y < bh B) (hx : x < bw B) : ∀ k, (∀ i, i < k → inR (l.getD i default).2.1 x y = false) → gr (punchT B l k) x y = gr B x y
  | 0, _ => rfl
  | k + 1, hk => by
    have ih := gr_punchT h l hy hx k fun i hi => hk i (by omega)
    obtain ⟨_, h2, h3⟩ := punchT_board h l k
    have := hk k (by omega)
    simp only [punchT]
    rw [gr_punch (by rw [h3]; exact hy) (by rw [h2]; exact hx), if_neg (by rw [this]; simp)]
    exact ih
theorem pw_at {l : List Plc} (h : l.Pairwise Apart) {i j : Nat} (hij : i < j) (hj : j < l.length) : Apart (l.getD i default) (l.getD j default) := by
  rw [getD_in _ _ (by omega), getD_in _ _ hj]
  exact List.pairwise_iff_getElem.1 h i j (by omega) hj hij
/-- What is left and what was taken. -/
theorem cnt_rest (hg : goodB B K = true) {l : List Plc} (hl : ∀ x ∈ l, x.1 < K.length ∧ x.2.1.ok (bw B) (bh B) ∧ okB B (K.getD x.1 default) x.2.1 = true ∧ turnedB (K.getD x.1 default) x.2.1 = x.2.2) (hp : l.Pairwise Apart) : ∀ k, k ≤ l.length → cnt (punchT B l k) 1 0 0 (bw B) (bh B) + areaT l k = cnt B 1 0 0 (bw B) (bh B)
  | 0, _ => rfl
  | k + 1, hk => by
    have hgb : boardB B = true := by simp only [goodB, Bool.and_eq_true] at hg; exact hg.1
    have ih := cnt_rest hg hl hp k (by omega)
    obtain ⟨_, h2, h3⟩ := punchT_board hgb l k
    have hm : l.getD k default ∈ l := by rw [getD_in _ _ (by omega)]; exact List.getElem_mem _
    obtain ⟨x1, x2, x3, x4⟩ := hl _ hm
    have hpw : ∀ i, i < k → Apart (l.getD i default) (l.getD k default) := fun i hi => pw_at hp hi (by omega)
    simp only [punchT, areaT]
    generalize l.getD k default = y at *
    have e1 := cnt_punch (B := punchT B l k) (g := 1) (r := y.2.1) (by rw [h2, h3]; exact x2) (by omega)
    rw [h2, h3] at e1
    have hr := x2
    unfold R4.ok at hr
    have e2 : cnt (punchT B l k) 1 y.2.1.x y.2.1.y y.2.1.a y.2.1.b = cnt B 1 y.2.1.x y.2.1.y y.2.1.a y.2.1.b := cnt_same fun i j hi hj => gr_punchT hgb l (by omega) (by omega) k fun s hs => by
      cases e : inR (l.getD s default).2.1 (y.2.1.x + i) (y.2.1.y + j) with
      | false => rfl
      | true => exact absurd ⟨e, decide_eq_true (by omega)⟩ (hpw s hs _ _)
    have hkd := kdB_in (kinds_get (by simp only [goodB, Bool.and_eq_true] at hg; exact hg.2) x1)
    have hc : cnt B (K.getD y.1 default).g y.2.1.x y.2.1.y y.2.1.a y.2.1.b = y.2.1.a * y.2.1.b := by
      unfold okB at x3
      rw [Bool.and_eq_true, decide_eq_true_eq] at x3
      exact x3.2
    have e3 := cnt_low (B := B) (show (1 : Int) ≤ (K.getD y.1 default).g by omega) y.2.1.x y.2.1.y y.2.1.a y.2.1.b
    have e4 := cnt_le B 1 y.2.1.x y.2.1.y y.2.1.a y.2.1.b
    omega
end
def metL (w h : Nat) (l : List Plc) (i : Nat) (r : R4) (j : Nat) : List Bool := (List.range (h * w)).map fun n => (l.take i).any (fun p => inR p.2.1 (n % w) (n / w)) || (inR r (n % w) (n / w) && decide ((n / w - r.y) * r.a + (n % w - r.x) < j))
theorem metL_len (w h : Nat) (l : List Plc) (i : Nat) (r : R4) (j : Nat) : (metL w h l i r j).length = h * w := by simp [metL]
theorem metL_zero (w h : Nat) (l : List Plc) (r : R4) : metL w h l 0 r 0 = List.replicate (h * w) false := by
  apply List.ext_getElem
  · simp [metL]
  · intro i h1 h2
    simp [metL]
theorem metL_start (w h : Nat) (l : List Plc) (i : Nat) (r r' : R4) : metL w h l i r 0 = metL w h l i r' 0 := by
  apply List.ext_getElem
  · simp [metL]
  · intro i h1 h2
    simp [metL]
/-- The j-th cell of a rectangle. -/
theorem cell_at {r : R4} {w h j : Nat} (hr : r.ok w h) (hj : j < r.a * r.b) : r.y + j / r.a < h ∧ r.x + j % r.a < w ∧ inR r (r.x + j % r.a) (r.y + j / r.a) = true ∧ ((r.y + j / r.a) * w + r.x + j % r.a) % w = r.x + j % r.a ∧ ((r.y + j / r.a) * w + r.x + j % r.a) / w = r.y + j / r.a ∧ (r.y + j / r.a) * w + r.x + j % r.a < h * w := by
  unfold R4.ok at hr
  have h1 : j / r.a < r.b := Nat.div_lt_of_lt_mul hj
  have h2 : j % r.a < r.a := Nat.mod_lt _ (by omega)
  generalize j / r.a = q at *
  generalize j % r.a = s at *
  have h3 : r.x + s < w := by omega
  have h4 : r.y + q < h := by omega
  refine ⟨h4, h3, decide_eq_true (by omega), ?_, ?_, ?_⟩
  · rw [Nat.add_assoc, Nat.mul_comm, Nat.mul_add_mod, Nat.mod_eq_of_lt h3]
  · rw [Nat.add_assoc, Nat.mul_comm, Nat.mul_add_div (by omega), Nat.div_eq_of_lt h3, Nat.add_zero]
  · have : (r.y + q + 1) * w ≤ h * w := Nat.mul_le_mul_right _ h4
    rw [Nat.add_mul, Nat.one_mul] at this
    omega
theorem metL_at {r : R4} {w h j i : Nat} {l : List Plc} (hr : r.ok w h) (hj : j < r.a * r.b) (hd : ∀ k, k < i → ∀ u v, ¬ (inR (l.getD k default).2.1 u v = true ∧ inR r u v = true)) (hi : i ≤ l.length) : (metL w h l i r j).getD ((r.y + j / r.a) * w + r.x + j % r.a) false = false := by
  obtain ⟨c1, c2, c3, c4, c5, c6⟩ := cell_at hr hj
  rw [getD_in _ _ (by rw [metL_len]; exact c6)]
  simp only [metL, List.getElem_map, List.getElem_range, c4, c5]
  rw [Bool.or_eq_false_iff]
  constructor
  · rw [List.any_eq_false]
    intro p hp hin
    obtain ⟨k, hk, rfl⟩ := List.getElem_of_mem hp
    rw [List.length_take] at hk
    refine hd k (by omega) _ _ ⟨?_, c3⟩
    rw [getD_in _ _ (by omega)]
    rw [List.getElem_take] at hin
    exact hin
  · rw [Bool.and_eq_false_iff]
    right
    rw [decide_eq_false_iff_not]
    have : j / r.a * r.a + j % r.a = j := by rw [Nat.mul_comm]; exact Nat.div_add_mod j r.a
    rw [Nat.add_sub_cancel_left, Nat.add_sub_cancel_left]
    omega
theorem metL_set {r : R4} {w h j i : Nat} {l : List Plc} (hr : r.ok w h) (hj : j < r.a * r.b) : (metL w h l i r j).set ((r.y + j / r.a) * w + r.x + j % r.a) true = metL w h l i r (j + 1) := by
  obtain ⟨c1, c2, c3, c4, c5, c6⟩ := cell_at hr hj
  have hj2 : j / r.a * r.a + j % r.a = j := by rw [Nat.mul_comm]; exact Nat.div_add_mod j r.a
  apply List.ext_getElem
  · simp [metL]
  · intro n h1 h2
    simp only [metL, List.length_set, List.length_map, List.length_range] at h1
    rw [List.getElem_set]
    by_cases e : (r.y + j / r.a) * w + r.x + j % r.a = n
    · subst e
      rw [if_pos rfl]
      simp only [metL, List.getElem_map, List.getElem_range, c4, c5, c3]
      rw [Nat.add_sub_cancel_left, Nat.add_sub_cancel_left, hj2, decide_eq_true (Nat.lt_succ_self j)]
      simp
    · rw [if_neg e]
      simp only [metL, List.getElem_map, List.getElem_range]
      congr 1
      have hdm : n / w * w + n % w = n := by rw [Nat.mul_comm]; exact Nat.div_add_mod n w
      generalize n / w = u at *
      generalize n % w = v at *
      cases hin : inR r v u with
      | false => rfl
      | true =>
        rw [Bool.true_and, Bool.true_and]
        unfold inR at hin
        rw [decide_eq_true_eq] at hin
        obtain ⟨q1, q2, q3, q4⟩ := hin
        have hne : ¬ (u - r.y) * r.a + (v - r.x) = j := fun he => by
          have hm : j % r.a = v - r.x := by
            rw [← he, Nat.mul_comm, Nat.mul_add_mod, Nat.mod_eq_of_lt (by omega)]
          have hdv : j / r.a = u - r.y := by
            rw [← he, Nat.mul_comm, Nat.mul_add_div (by omega), Nat.div_eq_of_lt (by omega), Nat.add_zero]
          apply e
          rw [hm, hdv, show r.y + (u - r.y) = u by omega]
          omega
        rw [Bool.eq_iff_iff, decide_eq_true_eq, decide_eq_true_eq]
        omega
theorem metL_full {w h i : Nat} {l : List Plc} (hi : i < l.length) : metL w h l i (l.getD i default).2.1 ((l.getD i default).2.1.a * (l.getD i default).2.1.b) = metL w h l (i + 1) default 0 := by
  apply List.ext_getElem
  · simp [metL]
  · intro n h1 h2
    simp only [metL, List.getElem_map, List.getElem_range]
    rw [take_snoc l i default hi, List.any_append]
    simp only [List.any_cons, List.any_nil, Bool.or_false, Nat.not_lt_zero, decide_false, Bool.and_false]
    congr 1
    generalize (l.getD i default).2.1 = r
    cases hin : inR r (n % w) (n / w) with
    | false => rfl
    | true =>
      rw [Bool.true_and, decide_eq_true_eq]
      unfold inR at hin
      rw [decide_eq_true_eq] at hin
      obtain ⟨q1, q2, q3, q4⟩ := hin
      generalize n / w = u at *
      generalize n % w = v at *
      have : (u - r.y + 1) * r.a ≤ r.b * r.a := Nat.mul_le_mul_right _ (by omega)
      rw [Nat.add_mul, Nat.one_mul, Nat.mul_comm r.b] at this
      omega
end Go.Proofs.YtibhgdglbillaaaDoor.Abs
namespace Go.Proofs.YtibhgdglbillaaaDoor.Abs
set_option linter.unusedSimpArgs false
set_option linter.unusedVariables false
open Go.RowKit
open Go.Proofs.YtibhgdglbillaaaDoor.Sim
/-- What an operation comes to: a value; a new block with the value that names it; a block made here is filled. -/
inductive Ent | val (d : Nat) (v : Value) | cp (d k : Nat) (f : Nat → Value) | mk (d : Nat) (f : Nat → Value) (b : Option Blk) | fill (k : Nat) (b : Option Blk)
def Ent.pr (p : Nat → Nat) (i : Nat) : Ent → List (Nat × Value)
  | .val d v => [(d, v)]
  | .cp d k f => [(d, f (p k))]
  | .mk d f _ => [(d, f (p i))]
  | .fill .. => []
/-- Of a list with the last one ahead: the n-th from behind. -/
def depG (p : Nat → Nat) (acc : List Ent) (D : List Nat) : List (Nat × Value) := D.flatMap fun j => (acc.getD j (.fill 0 none)).pr p (acc.length - 1 - j)
def fillOf (k : Nat) : List Ent → Option (Option Blk)
  | [] => none
  | .fill j b :: acc => if j = k then some b else fillOf k acc
  | _ :: acc => fillOf k acc
section
variable (P : Program) (nt : Nat) (m : AM) (ops : Array Oper) (bs : List (Nat × Value))
def EntOk (o : Oper) (dd : List Nat) (acc : List Ent) : Ent → Prop
  | .val d v => o.dst = some d ∧ ∀ p : Nat → Nat, (∀ k, m.length ≤ p k) → ∀ N : AM, Step P nt ops o (fr (depG p acc dd ++ bs)) (m ++ N) (fun t' m' => t' d = some v ∧ m' = m ++ N)
  | .cp d k f => o.dst = some d ∧ k < acc.length ∧ acc.length - 1 - k ∈ dd ∧ ∀ p : Nat → Nat, (∀ k, m.length ≤ p k) → ∀ N : AM, Step P nt ops o (fr (depG p acc dd ++ bs)) (m ++ N) (fun t' m' => t' d = some (f (p k)) ∧ m' = m ++ N)
  | .mk d f b => o.dst = some d ∧ ∀ p : Nat → Nat, (∀ k, m.length ≤ p k) → ∀ N : AM, Step P nt ops o (fr (depG p acc dd ++ bs)) (m ++ N) (fun t' m' => t' d = some (f (m ++ N).length) ∧ m' = (m ++ N) ++ [b])
  | .fill k b => o.dst = none ∧ fillOf k acc = none ∧ k < acc.length ∧ acc.length - 1 - k ∈ dd ∧ ∃ d f b0, acc[acc.length - 1 - k]? = some (.mk d f b0) ∧
      ∀ p : Nat → Nat, (∀ k, m.length ≤ p k) → ∀ M : AM, M[p k]? = some b0 → Step P nt ops o (fr (depG p acc dd ++ bs)) M (fun _ m' => m' = M.set (p k) b)
def AWg : List Oper → List (List Nat) → List Ent → (List Ent → Prop) → Prop
  | [], _, acc, Q => Q acc
  | o :: rest, D, acc, Q => ∃ e, EntOk P nt m ops bs o (D.headD []) acc e ∧ AWg rest D.tail (e :: acc) Q
end
section
variable {P : Program} {nt : Nat} {t : Fm} {m m0 : AM} {ops : Array Oper} {l : List Oper} {bs : List (Nat × Value)} {o : Oper} {rest : List Oper} {dd : List Nat} {D : List (List Nat)} {acc : List Ent} {Q : List Ent → Prop} {d : Nat} {v : Value}
theorem AWg.val (hd : o.dst = some d) (h : ∀ p : Nat → Nat, (∀ k, m.length ≤ p k) → ∀ N : AM, Step P nt ops o (fr (depG p acc dd ++ bs)) (m ++ N) (fun t' m' => t' d = some v ∧ m' = m ++ N)) (hr : AWg P nt m ops bs rest D (.val d v :: acc) Q) : AWg P nt m ops bs (o :: rest) (dd :: D) acc Q := ⟨.val d v, ⟨hd, h⟩, hr⟩
theorem AWg.ptr {b : Option Blk} (hd : o.dst = some d) (h : ∀ p : Nat → Nat, (∀ k, m.length ≤ p k) → ∀ N : AM, Step P nt ops o (fr (depG p acc dd ++ bs)) (m ++ N) (fun t' m' => t' d = some (.pointer (some ⟨(m ++ N).length, 0, none⟩)) ∧ m' = (m ++ N) ++ [b])) (hr : AWg P nt m ops bs rest D (.mk d (fun a => .pointer (some ⟨a, 0, none⟩)) b :: acc) Q) : AWg P nt m ops bs (o :: rest) (dd :: D) acc Q := ⟨.mk d (fun a => .pointer (some ⟨a, 0, none⟩)) b, ⟨hd, h⟩, hr⟩
theorem AWg.new (f : Nat → Value) {b : Option Blk} (hd : o.dst = some d) (h : ∀ p : Nat → Nat, (∀ k, m.length ≤ p k) → ∀ N : AM, Step P nt ops o (fr (depG p acc dd ++ bs)) (m ++ N) (fun t' m' => t' d = some (f (m ++ N).length) ∧ m' = (m ++ N) ++ [b])) (hr : AWg P nt m ops bs rest D (.mk d f b :: acc) Q) : AWg P nt m ops bs (o :: rest) (dd :: D) acc Q := ⟨.mk d f b, ⟨hd, h⟩, hr⟩
theorem AWg.fill (k : Nat) {d0 : Nat} {f0 : Nat → Value} {b b0 : Option Blk} (hd : o.dst = none) (h1 : fillOf k acc = none) (h2 : k < acc.length) (h3 : acc.length - 1 - k ∈ dd) (h4 : acc[acc.length - 1 - k]? = some (.mk d0 f0 b0))
    (h : ∀ p : Nat → Nat, (∀ k, m.length ≤ p k) → ∀ M : AM, M[p k]? = some b0 → Step P nt ops o (fr (depG p acc dd ++ bs)) M (fun _ m' => m' = M.set (p k) b)) (hr : AWg P nt m ops bs rest D (.fill k b :: acc) Q) : AWg P nt m ops bs (o :: rest) (dd :: D) acc Q := ⟨.fill k b, ⟨hd, h1, h2, h3, d0, f0, b0, h4, h⟩, hr⟩
section
variable {T : Nat} {pos : String} {af : Array Edge} {ty : TypeId} {b b0 : Option Blk}
end
theorem AWg.nil (h : Q acc) : AWg P nt m ops bs [] D acc Q := h
theorem AWg.get : ∀ {rest : List Oper} {D : List (List Nat)} {acc : List Ent} {Q : List Ent → Prop}, AWg P nt m ops bs rest D acc Q → ∃ a1 : List Ent, a1.length = rest.length ∧ Q (a1.reverse ++ acc) ∧ ∀ i o, rest[i]? = some o → ∃ e, a1[i]? = some e ∧ EntOk P nt m ops bs o (D.getD i []) ((a1.take i).reverse ++ acc) e
  | [], _, acc, Q, h => ⟨[], rfl, h, fun i o ho => by simp at ho⟩
  | o :: rest, D, acc, Q, h => by
    obtain ⟨e, h1, h2⟩ := h
    obtain ⟨a1, g1, g2, g3⟩ := AWg.get h2
    refine ⟨e :: a1, by simp [g1], by rw [List.reverse_cons, List.append_assoc]; exact g2, fun i o' ho => ?_⟩
    cases i with
    | zero =>
      simp only [List.getElem?_cons_zero, Option.some.injEq] at ho
      subst ho
      refine ⟨e, rfl, ?_⟩
      rw [List.take_zero, List.reverse_nil, List.nil_append]
      cases D <;> exact h1
    | succ i =>
      simp only [List.getElem?_cons_succ] at ho ⊢
      obtain ⟨e', k1, k2⟩ := g3 i o' ho
      refine ⟨e', k1, ?_⟩
      rw [List.take_succ_cons, List.reverse_cons, List.append_assoc]
      have : D.tail.getD i [] = D.getD (i + 1) [] := by cases D <;> simp
      rw [this] at k2
      exact k2
end
end Go.Proofs.YtibhgdglbillaaaDoor.Abs
namespace Go.Proofs.YtibhgdglbillaaaDoor.Abs
set_option linter.unusedSimpArgs false
set_option linter.unusedVariables false
open Go.RowKit
open Go.Proofs.YtibhgdglbillaaaDoor.Sim
/-- A slice that names a whole row of one's own: n elements of s cells each. -/
def Row (M : AM) (b0 s : Nat) (u : Value) (c : List Value) (n : Nat) : Prop :=
  (u = .slice none 0 0 ∧ c = [] ∧ n = 0) ∨ ∃ (a : Nat) (kd : Kind) (sz : Nat), b0 ≤ a ∧ u = .slice (some ⟨a, 0, none⟩) n n ∧ M[a]? = some (some { cells := c, kind := kd, size := sz }) ∧ c.length = n * s ∧ (kd = .own ∨ kd = .grow ∧ sz = s)
theorem Row.len {M : AM} {b0 s : Nat} {u : Value} {c : List Value} {n : Nat} (h : Row M b0 s u c n) : c.length = n * s := by
  rcases h with ⟨_, rfl, rfl⟩ | ⟨a, kd, sz, _, _, _, h, _⟩
  · simp
  · exact h
theorem Row.nil {M : AM} {b0 s : Nat} : Row M b0 s (.slice none 0 0) [] 0 := .inl ⟨rfl, rfl, rfl⟩
theorem Row.low {M : AM} {b0 b1 s : Nat} {u : Value} {c : List Value} {n : Nat} (h : Row M b0 s u c n) (hb : b1 ≤ b0) : Row M b1 s u c n := by
  rcases h with h | ⟨a, kd, sz, h1, h2⟩
  · exact .inl h
  · exact .inr ⟨a, kd, sz, by omega, h2⟩
theorem Row.old {M : AM} {b0 s : Nat} {u : Value} {c : List Value} {n : Nat} (h : Row M b0 s u c n) (T : AM) : Row (M ++ T) b0 s u c n := by
  rcases h with h | ⟨a, kd, sz, h1, h2, h3, h4⟩
  · exact .inl h
  · exact .inr ⟨a, kd, sz, h1, h2, get_old _ h3, h4⟩
theorem Row.sl {M : AM} {b0 s : Nat} {u : Value} {c : List Value} {n : Nat} (h : Row M b0 s u c n) (hM : 0 < M.length) : ∃ a, Sl u a 0 n ∧ a < M.length ∧ (0 < n → RdL M a 0 c) := by
  rcases h with ⟨rfl, rfl, rfl⟩ | ⟨a, kd, sz, h1, rfl, h3, h4, _⟩
  · exact ⟨0, .inl ⟨rfl, rfl⟩, hM, fun h => absurd h (by omega)⟩
  · exact ⟨a, Sl.mk (Nat.le_refl _), (List.getElem?_eq_some_iff.1 h3).1, fun _ => ⟨_, h3, fun j v hj => by simpa using hj⟩⟩
/-- The block is the only one that an append may take. -/
def NotOf (u : Value) (j : Nat) : Prop := ∀ n c, u ≠ .slice (some ⟨j, 0, none⟩) n c
theorem NotOf.row {M : AM} {b0 s : Nat} {u : Value} {c : List Value} {n j : Nat} (h : Row M b0 s u c n) (hj : j < b0) : NotOf u j := by
  intro n' c' e
  rcases h with ⟨h, _⟩ | ⟨a, kd, sz, h1, h2, _⟩
  · rw [e] at h; cases h
  · rw [e] at h2
    simp only [Value.slice.injEq, Option.some.injEq, Addr.mk.injEq] at h2
    omega
/-- What lies ahead is as it was. -/
theorem pre_keep {m0 M M' : AM} (h : ∃ N, M = m0 ++ N) (hl : M.length ≤ M'.length) (hk : ∀ j, j < m0.length → M'[j]? = M[j]?) : ∃ N, M' = m0 ++ N := by
  obtain ⟨N, rfl⟩ := h
  refine ⟨M'.drop m0.length, ?_⟩
  rw [List.length_append] at hl
  have e : M'.take m0.length = m0 := by
    apply List.ext_getElem?
    intro j
    by_cases hj : j < m0.length
    · rw [List.getElem?_take, if_pos hj, hk j hj, List.getElem?_append_left hj]
    · rw [List.getElem?_eq_none (by rw [List.length_take]; omega), List.getElem?_eq_none (by omega)]
  have h2 := List.take_append_drop m0.length M'
  rw [e] at h2
  exact h2.symm
section
variable {P : Program} {nt : Nat} {ops : Array Oper} {t : Fm} {m : AM} {K : Fm → AM → Prop} {d T : Nat} {p : String} {af : Array Edge}
theorem acells_sl {m : AM} {s n a o : Nat} {v : Value} {new : List Value} (hs : Sl v a o n) (hr : 0 < n → RdL m a o new) (hn : new.length = n * s) (h0 : 0 < s) : acells (m ++ [none]) s n v = some new ∧ aSliceLen v = some n := by
  rcases hs with ⟨rfl, rfl⟩ | ⟨c, hc, rfl⟩ | ⟨rfl, o', k, rfl⟩
  · obtain rfl : new = [] := List.eq_nil_of_length_eq_zero (by simpa using hn)
    exact ⟨by simp [acells], rfl⟩
  · refine ⟨?_, rfl⟩
    by_cases hz : n = 0
    · subst hz
      obtain rfl : new = [] := List.eq_nil_of_length_eq_zero (by simpa using hn)
      simp [acells]
    · obtain ⟨b, r1, r2⟩ := hr (by omega)
      have hr' : (m ++ [none])[a]? = some (some b) := get_old _ r1
      have hns : 0 < n * s := Nat.mul_pos (by omega) h0
      have hlast := r2 (n * s - 1) new[n * s - 1] (List.getElem?_eq_getElem (by omega))
      have hlen := (List.getElem?_eq_some_iff.1 hlast).1
      have htake : (b.cells.drop o).take (n * s) = new := by
        apply List.ext_getElem?
        intro j
        by_cases hj : j < n * s
        · rw [List.getElem?_take, if_pos hj, List.getElem?_drop, r2 j new[j] (List.getElem?_eq_getElem (by omega)), List.getElem?_eq_getElem (by omega)]
        · rw [List.getElem?_take, if_neg hj, List.getElem?_eq_none (by omega)]
      simp only [acells, hr']
      rw [if_neg hz, if_pos ⟨Nat.le_refl _, by omega⟩, htake]
  · obtain rfl : new = [] := List.eq_nil_of_length_eq_zero (by simpa using hn)
    exact ⟨by simp [acells], rfl⟩
/-- APPEND. -/
theorem Step.appRow {x y : Operand} {X Y e e' : TypeId} {by_ s a o n xl b0 : Nat} {z : Array Value} {c new : List Value} {u yv : Value} (hx : evo t x = some u) (hy : evo t y = some yv) (hr : Row m b0 s u c n) (hs : Sl yv a o xl) (hrd : 0 < xl → RdL m a o new) (hE : elemB P X = some (e, s, by_, z)) (hY : P.underlying Y = some (.slice e'))
    (hn : new.length = xl * s) (hn1 : new.all (·.oneCell') = true) (h0 : Nat.blt 0 s = true) (hb : (n + xl) * by_ ≤ 1099511627776 ∧ n + xl ≤ 1099511627776) (hlt : Nat.blt d nt = true) (hbm : b0 ≤ m.length)
    (hK : ∀ u' M', Row M' b0 s u' (c ++ new) (n + xl) → m.length ≤ M'.length → (∀ j, j < m.length → NotOf u j → M'[j]? = m[j]?) → K (put t d u') M') :
    Step P nt ops ⟨some d, .call ⟨.builtin .append, #[x, y], #[X, Y]⟩, T, p, af, none⟩ t m K := by
  have h0 : 0 < s := Nat.le_of_ble_eq_true h0
  obtain ⟨hc1, hc2⟩ := acells_sl hs hrd hn h0
  have fin : ∀ v m', aloud P ⟨some d, .call ⟨.builtin .append, #[x, y], #[X, Y]⟩, T, p, af, none⟩ (evD t) (m ++ [none]) m.length = some (v, m') → K (put t d v) m' → Step P nt ops ⟨some d, .call ⟨.builtin .append, #[x, y], #[X, Y]⟩, T, p, af, none⟩ t m K :=
    fun v m' h hk => .l rfl rfl hlt rfl (by simp [Op.operands, Call.operands, hx, hy]) (loud_of_aloud rfl h hk)
  have hnone : ¬ ((!(new.all (·.oneCell')) || s == 0) = true) := by simp [hn1]; omega
  have set1 : ∀ (M : AM) (b : Blk), M.length = m.length → (M ++ [none]).set m.length (some b) = M ++ [some b] := fun M b h => by
    rw [List.set_append_right _ _ (by omega), h]
    simp
  rcases hr with ⟨rfl, rfl, rfl⟩ | ⟨q, kd, sz, hq0, rfl, hq, hcl, hkd⟩
  · by_cases hx0 : xl = 0
    · subst hx0
      obtain rfl : new = [] := List.eq_nil_of_length_eq_zero (by simpa using hn)
      refine fin (.slice none 0 0) (m ++ [none]) ?_ (hK _ _ Row.nil (by simp) fun j hj _ => List.getElem?_append_left hj)
      simp only [aloud, evD_of hx, evD_of hy, aappend, hE, hY, hc1, hc2]
      rw [if_neg hnone, if_pos trivial]
    · refine fin (.slice (some ⟨m.length, 0, none⟩) xl xl) (m ++ [some { cells := new, kind := .grow, size := s }]) ?_ (hK _ _ (.inr ⟨m.length, .grow, s, hbm, by rw [Nat.zero_add], by simp, by simpa using hn, .inr ⟨rfl, rfl⟩⟩) (by simp) fun j hj _ => List.getElem?_append_left hj)
      simp only [aloud, evD_of hx, evD_of hy, aappend, hE, hY, hc1, hc2]
      rw [if_neg hnone, if_neg hx0, if_pos (by simpa using hb), set1 m _ rfl]
  · have hg : (m ++ [none])[q]? = some (some { cells := c, kind := kd, size := sz }) := get_old _ hq
    have hql := (List.getElem?_eq_some_iff.1 hq).1
    by_cases hx0 : xl = 0
    · subst hx0
      obtain rfl : new = [] := List.eq_nil_of_length_eq_zero (by simpa using hn)
      refine fin (.slice (some ⟨q, 0, none⟩) n n) (m ++ [none]) ?_ (hK _ _ (.inr ⟨q, kd, sz, hq0, rfl, by rw [List.append_nil]; exact hg, by rw [List.append_nil]; exact hcl, hkd⟩) (by simp) fun j hj _ => List.getElem?_append_left hj)
      simp only [aloud, evD_of hx, evD_of hy, aappend, hE, hY, hc1, hc2]
      rw [if_neg hnone, if_pos trivial]
    · have hcn : (c ++ new).length = (n + xl) * s := by rw [List.length_append, hcl, hn, Nat.add_mul]
      rcases hkd with rfl | ⟨rfl, rfl⟩
      · refine fin (.slice (some ⟨m.length, 0, none⟩) (n + xl) (n + xl)) (m ++ [some { cells := c ++ new, kind := .grow, size := s }]) ?_ (hK _ _ (.inr ⟨m.length, .grow, s, hbm, rfl, by simp, hcn, .inr ⟨rfl, rfl⟩⟩) (by simp) fun j hj _ => List.getElem?_append_left hj)
        simp only [aloud, evD_of hx, evD_of hy, aappend, hE, hY, hc1, hc2]
        rw [if_neg hnone, if_neg hx0]
        simp only [hg]
        rw [if_neg (by omega), if_pos ⟨hb.1, hb.2, Nat.le_refl _⟩, if_pos (by omega), set1 m _ rfl]
        simp [List.take_of_length_le (show c.length ≤ n * s by omega)]
      · refine fin (.slice (some ⟨m.length, 0, none⟩) (n + xl) (n + xl)) ((m.set q none) ++ [some { cells := c ++ new, kind := .grow, size := sz }]) ?_ (hK _ _ (.inr ⟨m.length, .grow, sz, hbm, rfl, by simp, hcn, .inr ⟨rfl, rfl⟩⟩) (by simp) fun j hj hne => ?_)
        · simp only [aloud, evD_of hx, evD_of hy, aappend, hE, hY, hc1, hc2]
          rw [if_neg hnone, if_neg hx0]
          simp only [hg]
          rw [if_neg (by omega), if_pos ⟨hb.1, hb.2, Nat.le_refl _⟩, if_pos ⟨by omega, trivial⟩, List.set_append_left _ _ hql, set1 (m.set q none) _ (by simp)]
          simp [List.take_of_length_le (show c.length ≤ n * sz by omega)]
        · rw [List.getElem?_append_left (by simpa using hj), List.getElem?_set_ne]
          rintro rfl
          exact hne n n rfl
end
end Go.Proofs.YtibhgdglbillaaaDoor.Abs
namespace Go.Proofs.YtibhgdglbillaaaDoor.Abs
set_option linter.unusedSimpArgs false
set_option linter.unusedVariables false
open Go.RowKit
open Go.Proofs.YtibhgdglbillaaaDoor.Sim
def by8 (l : List UInt8) : List Value := l.map fun b => .int .u8 (b.toNat : Int)
theorem by8_len (l : List UInt8) : (by8 l).length = l.length := by simp [by8]
theorem by8_get {l : List UInt8} {j : Nat} (h : j < l.length) : (by8 l)[j]? = some (.int .u8 ((l[j]).toNat : Int)) := by simp [by8, h]
theorem by8_set (l : List UInt8) (i : Nat) (b : UInt8) : (by8 l).set i (.int .u8 (b.toNat : Int)) = by8 (l.set i b) := by simp [by8, List.map_set]
theorem by8_rep (n : Nat) : by8 (List.replicate n 0) = List.replicate n (.int .u8 0) := by simp [by8]
section
variable {P : Program} {nt : Nat} {ops : Array Oper} {t : Fm} {m : AM} {K : Fm → AM → Prop} {d T : Nat} {p : String} {af : Array Edge}
/-- A string made of bytes. -/
theorem Step.toStr {x : Operand} {S D e a o n : Nat} {v : Value} {l : List UInt8} (hx : evo t x = some v) (hs : Sl v a o n) (hn : l.length = n) (hrd : RdL m a o (by8 l)) (hS : P.underlying S = some (.slice e)) (he : P.underlying e = some (.int .u8)) (hD : P.underlying D = some .string)
    (hlt : Nat.blt d nt = true) (hK : K (put t d (.string ⟨l.toArray⟩)) m) : Step P nt ops ⟨some d, .convert S D x, T, p, af, none⟩ t m K := by
  refine .l rfl rfl hlt (by simp [stillB, hS]) (by simp [Op.operands, hx]) ?_
  intro base R w b Q next hb hm hev hn'
  have h1 := hev x (by simp [Op.operands])
  rw [evD_of hx] at h1
  have hrun : (convert S D (b.eval x)).run P w = .ok (.string ⟨l.toArray⟩) w := by
    generalize b.eval x = x' at h1
    rcases hs with ⟨rfl, h0⟩ | ⟨c, hc, rfl⟩ | ⟨h0, o', k, rfl⟩
    · obtain rfl : l = [] := List.eq_nil_of_length_eq_zero (by omega)
      cases h1
      rw [run_convert_bytes_string w S D e none 0 0 hS he hD]
      simp [Conv.bytesToString]
      rfl
    · cases h1 with
      | slice _ _ _ _ q hq hle =>
      subst hn
      refine run_convert_bytes_back w S D e _ _ l hS he hD fun j hj => ?_
      obtain ⟨blk, k1, k2⟩ := hrd
      obtain ⟨v', r1, r2⟩ := (hm.of k1 hq).cell (k2 j _ (by8_get hj))
      rw [Addr.add_lit]
      cases r2
      rw [Nat.add_assoc]
      exact r1
    · obtain rfl : l = [] := List.eq_nil_of_length_eq_zero (by omega)
      subst h0
      cases h1 with
      | sliceSpot _ _ _ q hq => exact run_convert_bytes_back w S D e _ _ [] hS he hD fun j hj => by simp at hj
  exact wp_of_does rfl (.inl (by simp [execOp, hrun])) (hn' R (.string ⟨l.toArray⟩) _ m w (.string _) (.refl hm) hK)
end
end Go.Proofs.YtibhgdglbillaaaDoor.Abs
namespace Go.Proofs.YtibhgdglbillaaaDoor.Abs
set_option linter.unusedSimpArgs false
set_option linter.unusedVariables false
open Go.RowKit
open Go.Proofs.YtibhgdglbillaaaDoor.Sim
open Go.Proofs
theorem un40 : Tryd.prog.underlying 40 = some (.slice 5) := by kernel_rfl
theorem un30 : Tryd.prog.underlying 30 = some (.slice 9) := by kernel_rfl
theorem el40 : elemB Tryd.prog 40 = some (5, 1, 1, #[.int .u8 0]) := by kernel_rfl
theorem el30 : elemB Tryd.prog 30 = some (9, 1, 16, #[.string ByteArray.empty]) := by kernel_rfl
/-- A made picture: h rows of w bytes; y of them are done. -/
def rowF (F : Nat → Nat → UInt8) (w y : Nat) : List UInt8 := (List.range w).map (F y)
def rowK (F : Nat → Nat → UInt8) (w y k : Nat) : List UInt8 := (List.range w).map fun x => if x < k then F y x else 0
def picK (F : Nat → Nat → UInt8) (w h k : Nat) : List Value := (List.range h).map fun y => if y < k then .string ⟨(rowF F w y).toArray⟩ else .string ByteArray.empty
theorem rowK_zero (F : Nat → Nat → UInt8) (w y : Nat) : rowK F w y 0 = List.replicate w 0 := by
  apply List.ext_getElem
  · simp [rowK]
  · intro i h1 h2
    simp [rowK]
theorem rowK_full (F : Nat → Nat → UInt8) (w y : Nat) : rowK F w y w = rowF F w y := by
  apply List.ext_getElem
  · simp [rowK, rowF]
  · intro i h1 h2
    simp only [rowK, List.length_map, List.length_range] at h1
    simp [rowK, rowF, h1]
theorem rowK_set (F : Nat → Nat → UInt8) (w y : Nat) (k : Nat) : (rowK F w y k).set k (F y k) = rowK F w y (k + 1) := by
  apply List.ext_getElem
  · simp [rowK]
  · intro i h1 h2
    simp only [rowK, List.length_set, List.length_map, List.length_range] at h1
    rw [List.getElem_set]
    by_cases e : k = i
    · subst e; simp [rowK]
    · rw [if_neg e]
      simp only [rowK, List.getElem_map, List.getElem_range]
      by_cases h : i < k
      · rw [if_pos h, if_pos (by omega)]
      · rw [if_neg h, if_neg (by omega)]
theorem picK_zero (F : Nat → Nat → UInt8) (w h : Nat) : picK F w h 0 = List.replicate h (.string ByteArray.empty) := by
  apply List.ext_getElem
  · simp [picK]
  · intro i h1 h2
    simp [picK]
theorem picK_set (F : Nat → Nat → UInt8) (w h : Nat) (k : Nat) : (picK F w h k).set k (.string ⟨(rowF F w k).toArray⟩) = picK F w h (k + 1) := by
  apply List.ext_getElem
  · simp [picK]
  · intro i h1 h2
    simp only [picK, List.length_set, List.length_map, List.length_range] at h1
    rw [List.getElem_set]
    by_cases e : k = i
    · subst e; simp [picK]
    · rw [if_neg e]
      simp only [picK, List.getElem_map, List.getElem_range]
      by_cases h : i < k
      · rw [if_pos h, if_pos (by omega)]
      · rw [if_neg h, if_neg (by omega)]
theorem picK_len (F : Nat → Nat → UInt8) (w h k : Nat) : (picK F w h k).length = h := by simp [picK]
theorem rowK_len (F : Nat → Nat → UInt8) (w h k : Nat) : (rowK F w h k).length = w := by simp [rowK]
theorem g0_picK (F : Nat → Nat → UInt8) (w h k : Nat) : ∀ v ∈ picK F w h k, g0 v = true := by
  intro v hv
  simp only [picK, List.mem_map] at hv
  obtain ⟨y, _, rfl⟩ := hv
  split <;> rfl
/-- The picture as a board. -/
def picB (F : Nat → Nat → UInt8) (w h : Nat) : Brd := (List.range h).map fun y => ⟨(rowF F w y).toArray⟩
theorem picB_strs {F : Nat → Nat → UInt8} {w h a n : Nat} {m : AM} {b : Blk} (hb : m[a]? = some (some b)) (hc : b.cells = picK F w h h) (hn : n = h) : Strs m (.slice (some ⟨a, 0, none⟩) n n) (picB F w h) := by
  subst hn
  refine ⟨a, 0, .inr (.inl ⟨n, by simp [picB], by simp [picB]⟩), (List.getElem?_eq_some_iff.1 hb).1, fun y hy => ⟨b, hb, ?_⟩⟩
  have hy' : y < n := by simpa [picB] using hy
  have e : rowOf (picB F w n) y = ⟨(rowF F w y).toArray⟩ := by
    unfold rowOf
    rw [getD_in _ _ hy]
    simp [picB]
  rw [hc, e, Nat.zero_add]
  simp [picK, hy']
theorem punch_pic (B : Brd) (r : R4) : punch B r = picB (pxl B r) (bw B) (bh B) := rfl
set_option maxHeartbeats 4000000 in
set_option maxRecDepth 100000 in
theorem pcell_ok {m : AM} {a b : Nat} {sv : Value} {B : Brd} {r : R4} (hs : Strs m sv B) (hb : Rd m b 0 sv) (hr : RdL m a 0 r.rc.cells) (h16 : r.x ≤ 48 ∧ r.y ≤ 48 ∧ r.a ≤ 48 ∧ r.b ≤ 48) {x y : Nat} (hy : y < bh B) (hx : x < (rowOf B y).size) :
    ACall Tryd.prog 111 #[.int .i64 (x : Nat), .int .i64 (y : Nat), .pointer (some ⟨a, 0, none⟩), .pointer (some ⟨b, 0, none⟩)] m (Ret (.int .u8 ((pxl B r y x).toNat : Nat)) m) := by
  obtain ⟨A, O, sl, la, rd⟩ := hs
  have ry := rd y hy
  have r0 : Rd m a (0 + 0) (.int .i64 (r.x : Nat)) := hr.at_ 0 rfl
  have r1 : Rd m a (0 + 1) (.int .i64 (r.y : Nat)) := hr.at_ 1 rfl
  have r2 : Rd m a (0 + 2) (.int .i64 (r.a : Nat)) := hr.at_ 2 rfl
  have r3 : Rd m a (0 + 3) (.int .i64 (r.b : Nat)) := hr.at_ 3 rfl
  have hyl : y < B.length := hy
  refine ACall.start Tryd.func111 rfl rfl ?_
  have no : ¬ (r.x ≤ x ∧ x < r.x + r.a ∧ r.y ≤ y ∧ y < r.y + r.b) → ((pxl B r y x).toNat : Int) = byteAt (rowOf B y) x := fun h => by
    unfold pxl inR
    rw [decide_eq_false h]
    rfl
  by_cases c1 : r.x ≤ x
  · by_cases c2 : x < r.x + r.a
    · by_cases c3 : r.y ≤ y
      · by_cases c4 : y < r.y + r.b
        · have e : ((pxl B r y x).toNat : Int) = 48 := by
            unfold pxl inR
            rw [decide_eq_true ⟨c1, c2, c3, c4⟩]
            rfl
          rw [e]
          (repeat (first | (with_reducible refine AWo.cons ?_) | ((with_reducible refine Step.id ?_); first | ((with_reducible apply Step.gdT); exact rfl; exact rfl; (focus ((simp only [decide_eq_true_eq, decide_eq_false_iff_not, Bool.not_eq_true', Bool.not_eq_false', Bool.not_true, Bool.not_false]; first | assumption | omega)))) | ((with_reducible apply Step.move); exact rfl; exact rfl) | ((with_reducible apply Step.assign); exact rfl; exact rfl) | ((with_reducible apply Step.load); exact rfl; (focus (decide +kernel)); exact rfl; (focus (exact Rd.old _ (by assumption)))) | ((with_reducible apply Step.field0); exact rfl; (focus (decide +kernel)); exact rfl) | ((with_reducible apply Step.field (k := 1)); exact rfl; (focus (decide +kernel)); exact rfl) | ((with_reducible apply Step.field (k := 2)); exact rfl; (focus (decide +kernel)); exact rfl) | ((with_reducible apply Step.field (k := 3)); exact rfl; (focus (decide +kernel)); exact rfl) | ((with_reducible apply Step.add); exact rfl; exact rfl; (focus (omega)); exact rfl) | ((with_reducible apply Step.lss); exact rfl; exact rfl; exact rfl) | ((with_reducible apply Step.geq); exact rfl; exact rfl; exact rfl) | ((with_reducible apply Step.pickT); exact rfl; exact rfl; exact rfl; exact rfl; (focus ((simp only [decide_eq_true_eq, decide_eq_false_iff_not, Bool.not_eq_true', Bool.not_eq_false', Bool.not_true, Bool.not_false]; first | assumption | omega))))) | (with_reducible refine AWo.nil ?_) | ((with_reducible apply AW.seq)) | ((with_reducible apply Then.n)) | ((with_reducible apply AW.regL)) | ((with_reducible apply AW.condT); exact rfl; (focus ((simp only [decide_eq_true_eq, decide_eq_false_iff_not, Bool.not_eq_true', Bool.not_eq_false', Bool.not_true, Bool.not_false]; first | assumption | omega))))))
          (refine AW.retD (l := [(6, _)]) (by repeat (first | exact trivial | (refine And.intro ⟨rfl, by (exact .int _ _)⟩ ?_))) ?_; (repeat (first | refine Then.r ?_ | refine InBlk.r ?_)))
          exact ⟨_, rfl, rfl, rfl⟩
        · rw [no (by omega)]
          (repeat (first | (with_reducible refine AWo.cons ?_) | ((with_reducible refine Step.id ?_); first | ((with_reducible apply Step.gdT); exact rfl; exact rfl; (focus ((simp only [decide_eq_true_eq, decide_eq_false_iff_not, Bool.not_eq_true', Bool.not_eq_false', Bool.not_true, Bool.not_false]; first | assumption | omega)))) | ((with_reducible apply Step.move); exact rfl; exact rfl) | ((with_reducible apply Step.assign); exact rfl; exact rfl) | ((with_reducible apply Step.load); exact rfl; (focus (decide +kernel)); exact rfl; (focus (exact Rd.old _ (by assumption)))) | ((with_reducible apply Step.ix1); exact rfl; (focus (assumption)); exact rfl; (focus (decide +kernel)); exact rfl; (focus (omega))) | ((with_reducible apply Step.field0); exact rfl; (focus (decide +kernel)); exact rfl) | ((with_reducible apply Step.field (k := 1)); exact rfl; (focus (decide +kernel)); exact rfl) | ((with_reducible apply Step.field (k := 2)); exact rfl; (focus (decide +kernel)); exact rfl) | ((with_reducible apply Step.field (k := 3)); exact rfl; (focus (decide +kernel)); exact rfl) | ((with_reducible apply Step.strIx); exact rfl; exact rfl; exact un9; (focus (omega)); exact rfl) | ((with_reducible apply Step.add); exact rfl; exact rfl; (focus (omega)); exact rfl) | ((with_reducible apply Step.lss); exact rfl; exact rfl; exact rfl) | ((with_reducible apply Step.geq); exact rfl; exact rfl; exact rfl) | ((with_reducible apply Step.pickT); exact rfl; exact rfl; exact rfl; exact rfl; (focus ((simp only [decide_eq_true_eq, decide_eq_false_iff_not, Bool.not_eq_true', Bool.not_eq_false', Bool.not_true, Bool.not_false]; first | assumption | omega))))) | (with_reducible refine AWo.nil ?_) | ((with_reducible apply AW.seq)) | ((with_reducible apply Then.n)) | ((with_reducible apply AW.regL)) | ((with_reducible apply AW.skip)) | ((with_reducible apply AW.condF); exact rfl; (focus ((simp only [decide_eq_true_eq, decide_eq_false_iff_not, Bool.not_eq_true', Bool.not_eq_false', Bool.not_true, Bool.not_false]; first | assumption | omega))))))
          (refine AW.retD (l := [(6, _)]) (by repeat (first | exact trivial | (refine And.intro ⟨rfl, by (exact .int _ _)⟩ ?_))) ?_; (repeat (first | refine Then.r ?_ | refine InBlk.r ?_)))
          exact ⟨_, rfl, rfl, rfl⟩
      · rw [no (by omega)]
        (repeat (first | (with_reducible refine AWo.cons ?_) | ((with_reducible refine Step.id ?_); first | ((with_reducible apply Step.gdT); exact rfl; exact rfl; (focus ((simp only [decide_eq_true_eq, decide_eq_false_iff_not, Bool.not_eq_true', Bool.not_eq_false', Bool.not_true, Bool.not_false]; first | assumption | omega)))) | ((with_reducible apply Step.gdF); exact rfl; exact rfl; (focus ((simp only [decide_eq_true_eq, decide_eq_false_iff_not, Bool.not_eq_true', Bool.not_eq_false', Bool.not_true, Bool.not_false]; first | assumption | omega)))) | ((with_reducible apply Step.move); exact rfl; exact rfl) | ((with_reducible apply Step.assign); exact rfl; exact rfl) | ((with_reducible apply Step.load); exact rfl; (focus (decide +kernel)); exact rfl; (focus (exact Rd.old _ (by assumption)))) | ((with_reducible apply Step.ix1); exact rfl; (focus (assumption)); exact rfl; (focus (decide +kernel)); exact rfl; (focus (omega))) | ((with_reducible apply Step.field0); exact rfl; (focus (decide +kernel)); exact rfl) | ((with_reducible apply Step.field (k := 1)); exact rfl; (focus (decide +kernel)); exact rfl) | ((with_reducible apply Step.field (k := 2)); exact rfl; (focus (decide +kernel)); exact rfl) | ((with_reducible apply Step.strIx); exact rfl; exact rfl; exact un9; (focus (omega)); exact rfl) | ((with_reducible apply Step.add); exact rfl; exact rfl; (focus (omega)); exact rfl) | ((with_reducible apply Step.lss); exact rfl; exact rfl; exact rfl) | ((with_reducible apply Step.geq); exact rfl; exact rfl; exact rfl) | ((with_reducible apply Step.pickT); exact rfl; exact rfl; exact rfl; exact rfl; (focus ((simp only [decide_eq_true_eq, decide_eq_false_iff_not, Bool.not_eq_true', Bool.not_eq_false', Bool.not_true, Bool.not_false]; first | assumption | omega)))) | ((with_reducible apply Step.pickF); exact rfl; exact rfl; exact rfl; exact rfl; (focus ((simp only [decide_eq_true_eq, decide_eq_false_iff_not, Bool.not_eq_true', Bool.not_eq_false', Bool.not_true, Bool.not_false]; first | assumption | omega))))) | (with_reducible refine AWo.nil ?_) | ((with_reducible apply AW.seq)) | ((with_reducible apply Then.n)) | ((with_reducible apply AW.regL)) | ((with_reducible apply AW.skip)) | ((with_reducible apply AW.condF); exact rfl; (focus (rfl)))))
        (refine AW.retD (l := [(6, _)]) (by repeat (first | exact trivial | (refine And.intro ⟨rfl, by (exact .int _ _)⟩ ?_))) ?_; (repeat (first | refine Then.r ?_ | refine InBlk.r ?_)))
        exact ⟨_, rfl, rfl, rfl⟩
    · rw [no (by omega)]
      (repeat (first | (with_reducible refine AWo.cons ?_) | ((with_reducible refine Step.id ?_); first | ((with_reducible apply Step.gdT); exact rfl; exact rfl; (focus ((simp only [decide_eq_true_eq, decide_eq_false_iff_not, Bool.not_eq_true', Bool.not_eq_false', Bool.not_true, Bool.not_false]; first | assumption | omega)))) | ((with_reducible apply Step.gdF); exact rfl; exact rfl; (focus (first | rfl | (simp only [decide_eq_true_eq, decide_eq_false_iff_not, Bool.not_eq_true', Bool.not_eq_false', Bool.not_true, Bool.not_false]; first | assumption | omega)))) | ((with_reducible apply Step.move); exact rfl; exact rfl) | ((with_reducible apply Step.assign); exact rfl; exact rfl) | ((with_reducible apply Step.load); exact rfl; (focus (decide +kernel)); exact rfl; (focus (exact Rd.old _ (by assumption)))) | ((with_reducible apply Step.ix1); exact rfl; (focus (assumption)); exact rfl; (focus (decide +kernel)); exact rfl; (focus (omega))) | ((with_reducible apply Step.field0); exact rfl; (focus (decide +kernel)); exact rfl) | ((with_reducible apply Step.field (k := 2)); exact rfl; (focus (decide +kernel)); exact rfl) | ((with_reducible apply Step.strIx); exact rfl; exact rfl; exact un9; (focus (omega)); exact rfl) | ((with_reducible apply Step.add); exact rfl; exact rfl; (focus (omega)); exact rfl) | ((with_reducible apply Step.lss); exact rfl; exact rfl; exact rfl) | ((with_reducible apply Step.geq); exact rfl; exact rfl; exact rfl) | ((with_reducible apply Step.pickT); exact rfl; exact rfl; exact rfl; exact rfl; (focus ((simp only [decide_eq_true_eq, decide_eq_false_iff_not, Bool.not_eq_true', Bool.not_eq_false', Bool.not_true, Bool.not_false]; first | assumption | omega)))) | ((with_reducible apply Step.pickF); exact rfl; exact rfl; exact rfl; exact rfl; (focus (first | rfl | (simp only [decide_eq_true_eq, decide_eq_false_iff_not, Bool.not_eq_true', Bool.not_eq_false', Bool.not_true, Bool.not_false]; first | assumption | omega))))) | (with_reducible refine AWo.nil ?_) | ((with_reducible apply AW.seq)) | ((with_reducible apply Then.n)) | ((with_reducible apply AW.regL)) | ((with_reducible apply AW.skip)) | ((with_reducible apply AW.condF); exact rfl; (focus (rfl)))))
      (refine AW.retD (l := [(6, _)]) (by repeat (first | exact trivial | (refine And.intro ⟨rfl, by (exact .int _ _)⟩ ?_))) ?_; (repeat (first | refine Then.r ?_ | refine InBlk.r ?_)))
      exact ⟨_, rfl, rfl, rfl⟩
  · rw [no (by omega)]
    (repeat (first | (with_reducible refine AWo.cons ?_) | ((with_reducible refine Step.id ?_); first | ((with_reducible apply Step.gdF); exact rfl; exact rfl; (focus (first | rfl | (simp only [decide_eq_true_eq, decide_eq_false_iff_not, Bool.not_eq_true', Bool.not_eq_false', Bool.not_true, Bool.not_false]; first | assumption | omega)))) | ((with_reducible apply Step.move); exact rfl; exact rfl) | ((with_reducible apply Step.assign); exact rfl; exact rfl) | ((with_reducible apply Step.load); exact rfl; (focus (decide +kernel)); exact rfl; (focus (exact Rd.old _ (by assumption)))) | ((with_reducible apply Step.ix1); exact rfl; (focus (assumption)); exact rfl; (focus (decide +kernel)); exact rfl; (focus (omega))) | ((with_reducible apply Step.field0); exact rfl; (focus (decide +kernel)); exact rfl) | ((with_reducible apply Step.strIx); exact rfl; exact rfl; exact un9; (focus (omega)); exact rfl) | ((with_reducible apply Step.geq); exact rfl; exact rfl; exact rfl) | ((with_reducible apply Step.pickF); exact rfl; exact rfl; exact rfl; exact rfl; (focus (first | rfl | (simp only [decide_eq_true_eq, decide_eq_false_iff_not, Bool.not_eq_true', Bool.not_eq_false', Bool.not_true, Bool.not_false]; first | assumption | omega))))) | (with_reducible refine AWo.nil ?_) | ((with_reducible apply AW.seq)) | ((with_reducible apply Then.n)) | ((with_reducible apply AW.regL)) | ((with_reducible apply AW.skip)) | ((with_reducible apply AW.condF); exact rfl; (focus (rfl)))))
    (refine AW.retD (l := [(6, _)]) (by repeat (first | exact trivial | (refine And.intro ⟨rfl, by (exact .int _ _)⟩ ?_))) ?_; (repeat (first | refine Then.r ?_ | refine InBlk.r ?_)))
    exact ⟨_, rfl, rfl, rfl⟩
set_option maxHeartbeats 4000000 in
set_option maxRecDepth 100000 in
theorem turned_ok {m : AM} {w h : Nat} {F : Nat → Nat → UInt8} {g : FuncId} {fn : Func} {b : Code} {caps : Array Value} (hw : 1 ≤ w ∧ w ≤ 48) (hh : 1 ≤ h ∧ h ≤ 48) (hf : Tryd.prog.funcs[g]? = some fn) (hb : fn.body = some b) (hlow : Low m.length (.func (.func g) #[] caps))
    (hF : ∀ x y, x < w → y < h → ∀ T, ACall Tryd.prog g (#[.int .i64 (x : Nat), .int .i64 (y : Nat)] ++ caps) (m ++ T) (Ret (.int .u8 ((F y x).toNat : Nat)) (m ++ T))) :
    ACall Tryd.prog 110 #[.int .i64 (w : Nat), .int .i64 (h : Nat), .func (.func g) #[] caps] m (New (some { cells := picK F w h h }) h m) := by
  refine ACall.start Tryd.func110 rfl rfl ?_
  (repeat (first | (with_reducible refine AWo.cons ?_) | ((with_reducible refine Step.id ?_); first | ((with_reducible apply Step.move); exact rfl; exact rfl) | ((with_reducible apply Step.assign); exact rfl; exact rfl) | ((with_reducible apply Step.len); exact rfl; (focus (exact Sl.mk (by omega))); (focus (decide +kernel)); exact rfl) | ((with_reducible apply Step.make1 0); exact rfl; exact rfl; exact rfl; exact el30; (focus (omega)); exact rfl; (focus (first | (simp only [List.nil_append, List.cons_append, List.set_cons_zero, List.set_cons_succ, iv_set, bv_set, iv_rep, bv_rep]; done) | (simp only [List.nil_append, List.cons_append, List.set_cons_zero, List.set_cons_succ, iv_set, bv_set, iv_rep, bv_rep]; rfl) | rfl)))) | (with_reducible refine AWo.nil ?_) | ((with_reducible apply AW.seq)) | ((with_reducible apply Then.n)) | ((with_reducible apply AW.regL)) | ((with_reducible apply AW.block))))
  refine AW.loopT (fun n t L => ∃ y : Nat, n = h - y ∧ y ≤ h ∧ L = [some { cells := picK F w h y }] ∧
    t = [(0, .int .i64 (w : Nat)), (2, .func (.func g) #[] caps), (7, .slice (some ⟨m.length + 0, 0, none⟩) h h), (14, .int .i64 (h : Nat)), (15, .int .i64 (y : Nat))])
    ⟨_, _, _, (Or.inl ⟨rfl, (by repeat (first | exact trivial | (refine And.intro rfl ?_)))⟩), 0, rfl, Nat.zero_le _, by rw [picK_zero], rfl⟩ ?_
  rintro n t L ⟨y, rfl, hy, rfl, rfl⟩
  rcases Nat.lt_or_ge y h with hlt | hge
  · have gp := g0_picK F w h y
    (repeat (first | (with_reducible refine AWo.cons ?_) | ((with_reducible refine Step.id ?_); first | ((with_reducible apply Step.move); exact rfl; exact rfl) | ((with_reducible apply Step.assign); exact rfl; exact rfl) | ((with_reducible apply Step.lss); exact rfl; exact rfl; exact rfl) | ((with_reducible apply Step.len); exact rfl; (focus (exact Sl.mk (by omega))); (focus (decide +kernel)); exact rfl) | ((with_reducible apply Step.make1 1); exact rfl; exact rfl; exact rfl; exact el40; (focus (omega)); exact rfl; (focus (first | (simp only [List.nil_append, List.cons_append, List.set_cons_zero, List.set_cons_succ, iv_set, bv_set, iv_rep, bv_rep]; done) | (simp only [List.nil_append, List.cons_append, List.set_cons_zero, List.set_cons_succ, iv_set, bv_set, iv_rep, bv_rep]; rfl) | rfl)))) | (with_reducible refine AWo.nil ?_) | ((with_reducible apply AW.seq)) | ((with_reducible apply Then.n)) | ((with_reducible apply AW.regL)) | ((with_reducible apply AW.block)) | ((with_reducible apply AW.skip)) | ((with_reducible apply AW.condT); exact rfl; (focus ((simp only [decide_eq_true_eq, decide_eq_false_iff_not, Bool.not_eq_true', Bool.not_eq_false', Bool.not_true, Bool.not_false]; first | assumption | omega))))))
    refine AW.loopT (fun n t L => ∃ x : Nat, n = w - x ∧ x ≤ w ∧ L = [some { cells := picK F w h y }, some { cells := by8 (rowK F w y x) }] ∧
      t = [(0, .int .i64 (w : Nat)), (2, .func (.func g) #[] caps), (7, .slice (some ⟨m.length + 0, 0, none⟩) h h), (8, .int .i64 (y : Nat)), (9, .slice (some ⟨m.length + 1, 0, none⟩) w w), (14, .int .i64 (h : Nat)), (15, .int .i64 (y : Nat)), (21, .int .i64 (w : Nat)), (22, .int .i64 (x : Nat))])
      ⟨_, _, _, (Or.inl ⟨rfl, (by repeat (first | exact trivial | (refine And.intro rfl ?_)))⟩), 0, rfl, Nat.zero_le _, by rw [rowK_zero, by8_rep], rfl⟩ ?_
    rintro n t L ⟨x, rfl, hx, rfl, rfl⟩
    rcases Nat.lt_or_ge x w with hxl | hxg
    · have hc := hF x y hxl hlt
      have hst := rowK_set F w y x
      have hl := rowK_len F w y x
      have hl8 := by8_len (rowK F w y x)
      generalize hr0 : rowK F w y x = r at *
      (repeat (first | (with_reducible refine AWo.cons ?_) | ((with_reducible refine Step.id ?_); first | ((with_reducible apply Step.move); exact rfl; exact rfl) | ((with_reducible apply Step.assign); exact rfl; exact rfl) | ((with_reducible apply Step.ix1z); exact rfl; (focus (exact Sl.mk (by omega))); exact rfl; (focus (decide +kernel)); exact rfl; (focus (omega))) | ((with_reducible apply Step.add); exact rfl; exact rfl; (focus (omega)); exact rfl) | ((with_reducible apply Step.lss); exact rfl; exact rfl; exact rfl) | ((with_reducible apply Step.callV fit); exact rfl; exact rfl; exact hf; exact hb; exact rfl; exact (hc _)) | ((with_reducible apply Step.store (k := 1)); exact rfl; exact rfl; exact rfl; exact rfl; (focus (decide +kernel)); exact rfl; exact rfl; (focus (first | omega | (simp [iv, bv]; done) | (simp [iv, bv]; omega))); (focus (first | (simp only [List.nil_append, List.cons_append, List.set_cons_zero, List.set_cons_succ, iv_set, bv_set, iv_rep, bv_rep]; done) | (simp only [List.nil_append, List.cons_append, List.set_cons_zero, List.set_cons_succ, iv_set, bv_set, iv_rep, bv_rep]; rfl) | rfl)))) | (with_reducible refine AWo.nil ?_) | ((with_reducible apply AW.seq)) | ((with_reducible apply Then.n)) | ((with_reducible apply AW.regL)) | ((with_reducible apply AW.block)) | ((with_reducible apply InBlk.n)) | ((with_reducible apply AW.skip)) | ((with_reducible apply AW.condT); exact rfl; (focus ((simp only [decide_eq_true_eq, decide_eq_false_iff_not, Bool.not_eq_true', Bool.not_eq_false', Bool.not_true, Bool.not_false]; first | assumption | omega))))))
      exact ⟨_, _, [some { cells := picK F w h y }, some { cells := by8 (rowK F w y (x + 1)) }], by omega, (Or.inl ⟨by rw [← hst, ← by8_set], (by repeat (first | exact trivial | (refine And.intro rfl ?_)))⟩), x + 1, rfl, by omega, rfl, rfl⟩
    · obtain rfl : x = w := by omega
      have hr8 : ∀ T, RdL (m ++ ([some { cells := picK F x h y }, some { cells := by8 (rowK F x y x) }] ++ T)) (m.length + 1) 0 (by8 (rowF F x y)) := fun T => by rw [← rowK_full]; exact RdL.new rfl rfl
      have hrl : (rowF F x y).length = x := by simp [rowF]
      have hpl := picK_len F x h y
      have hst := picK_set F x h y
      (repeat (first | (with_reducible refine AWo.cons ?_) | ((with_reducible refine Step.id ?_); first | ((with_reducible apply Step.move); exact rfl; exact rfl) | ((with_reducible apply Step.lss); exact rfl; exact rfl; exact rfl)) | (with_reducible refine AWo.nil ?_) | ((with_reducible apply AW.seq)) | ((with_reducible apply Then.n)) | ((with_reducible apply AW.regL)) | ((with_reducible apply AW.exit)) | ((with_reducible apply InBlk.hit)) | ((with_reducible apply Then.e)) | ((with_reducible apply AW.condF); exact rfl; (focus ((simp only [decide_eq_true_eq, decide_eq_false_iff_not, Bool.not_eq_true', Bool.not_eq_false', Bool.not_true, Bool.not_false]; first | assumption | omega))))))
      ((with_reducible apply Step.toStr (l := rowF F x y)); exact rfl; exact (Sl.mk (Nat.le_refl _)); exact hrl; (focus (simpa using hr8 [])); exact un40; exact un5; exact un9; exact rfl)
      (repeat (first | (with_reducible refine AWo.cons ?_) | ((with_reducible refine Step.id ?_); first | ((with_reducible apply Step.move); exact rfl; exact rfl) | ((with_reducible apply Step.ix1z); exact rfl; (focus (exact Sl.mk (by omega))); exact rfl; (focus (decide +kernel)); exact rfl; (focus (omega))) | ((with_reducible apply Step.add); exact rfl; exact rfl; (focus (omega)); exact rfl) | ((with_reducible apply Step.store (k := 0)); exact rfl; exact rfl; exact rfl; exact rfl; (focus (decide +kernel)); exact rfl; exact rfl; (focus (first | omega | (simp [iv, bv]; done) | (simp [iv, bv]; omega))); (focus (first | (simp only [List.nil_append, List.cons_append, List.set_cons_zero, List.set_cons_succ, iv_set, bv_set, iv_rep, bv_rep]; done) | (simp only [List.nil_append, List.cons_append, List.set_cons_zero, List.set_cons_succ, iv_set, bv_set, iv_rep, bv_rep]; rfl) | rfl)))) | (with_reducible refine AWo.nil ?_) | ((with_reducible apply Then.n)) | ((with_reducible apply AW.regL)) | ((with_reducible apply InBlk.n))))
      exact ⟨_, [(0, .int .i64 (x : Nat)), (2, .func (.func g) #[] caps), (7, .slice (some ⟨m.length + 0, 0, none⟩) h h), (14, .int .i64 (h : Nat)), (15, .int .i64 (y + 1 : Nat))], [some { cells := picK F x h (y + 1) }], by omega, by rw [← hst]; have gp' : ∀ v ∈ (picK F x h y).set y (.string ⟨(rowF F x y).toArray⟩), g0 v = true := (by rw [hst]; exact g0_picK _ _ _ _); exact (Back.trim rfl rfl (by repeat (first | exact CellsOk.nil | refine CellsOk.cons (by assumption) ?_)) (by repeat (first | exact trivial | (refine And.intro ⟨rfl, by (first | exact Low.rid (by assumption) (by simp) | exact .int _ _ | exact .slice _ _ _ _ (by first | (simp; done) | omega | (simp; omega)))⟩ ?_)))), y + 1, rfl, by omega, rfl, rfl⟩
  · obtain rfl : y = h := by omega
    (repeat (first | (with_reducible refine AWo.cons ?_) | ((with_reducible refine Step.id ?_); first | ((with_reducible apply Step.move); exact rfl; exact rfl) | ((with_reducible apply Step.assign); exact rfl; exact rfl) | ((with_reducible apply Step.lss); exact rfl; exact rfl; exact rfl)) | (with_reducible refine AWo.nil ?_) | ((with_reducible apply AW.seq)) | ((with_reducible apply Then.n)) | ((with_reducible apply AW.regL)) | ((with_reducible apply AW.exit)) | ((with_reducible apply InBlk.hit)) | ((with_reducible apply Then.e)) | ((with_reducible apply AW.condF); exact rfl; (focus ((simp only [decide_eq_true_eq, decide_eq_false_iff_not, Bool.not_eq_true', Bool.not_eq_false', Bool.not_true, Bool.not_false]; first | assumption | omega))))))
    (refine AW.retB (l := [(6, _)]) (Or.inl ⟨rfl, (by repeat (first | exact trivial | (refine And.intro rfl ?_)))⟩) ?_; (repeat (first | refine Then.r ?_ | refine InBlk.r ?_)))
    exact ⟨_, rfl, rfl, rfl⟩
end Go.Proofs.YtibhgdglbillaaaDoor.Abs
namespace Go.Proofs.YtibhgdglbillaaaDoor.Abs
set_option linter.unusedSimpArgs false
set_option linter.unusedVariables false
open Go.RowKit
open Go.Proofs.YtibhgdglbillaaaDoor.Sim
open Go.Proofs
theorem rcRight {w h : Nat} {r : R4} (hr : r.ok w h) : rightB r.rc = true := by
  unfold rightB R4.rc rcN
  unfold R4.ok at hr
  rw [decide_eq_true_eq]
  dsimp only
  omega
theorem rcLies {w h : Nat} {r : R4} (hr : r.ok w h) : liesB r.rc (w : Nat) (h : Nat) = true := by
  unfold liesB R4.rc rcN
  unfold R4.ok at hr
  rw [decide_eq_true_eq]
  dsimp only
  omega
set_option maxHeartbeats 4000000 in
set_option maxRecDepth 100000 in
theorem sfits_ok {m : AM} {sv : Value} {B : Brd} {r : R4} (hs : Strs m sv B) (hv : skinB B = true) (hr : r.ok (bw B) (bh B)) : ACall Tryd.prog 109 #[sv, r.rc.v] m (Ret (.int .i64 0) m) := by
  have hin := skin_in hv
  have h1 := fun T => Valid_ok (hs.old T)
  have h2 := fun M => right_ok (m := M) r.rc
  have h3 := fun M => inside_ok (m := M) r.rc (bw B : Nat) (bh B : Nat) (rcRight hr) (by omega) (by omega)
  rw [hv] at h1
  rw [rcRight hr] at h2
  rw [rcLies hr] at h3
  change ∀ M, ACall Tryd.prog 121 #[.agg r.rc.cells.toArray] _ _ at h2
  change ∀ M, ACall Tryd.prog 122 #[.agg r.rc.cells.toArray, .int .i64 ((rowOf B 0).size : Nat), .int .i64 (B.length : Nat)] _ _ at h3
  change ACall Tryd.prog 109 #[sv, .agg r.rc.cells.toArray] m _
  obtain ⟨A, O, sl, la, rd⟩ := id hs
  have r0 := rd 0 hin.1.1
  have hl0 : 0 < B.length := hin.1.1
  generalize r.rc = g at *
  refine ACall.start Tryd.func109 rfl rfl ?_
  (repeat (first | (with_reducible refine AWo.cons ?_) | ((with_reducible refine Step.id ?_); first | ((with_reducible apply Step.gdT); exact rfl; exact rfl; (focus (rfl))) | ((with_reducible apply Step.move); exact rfl; exact rfl) | ((with_reducible apply Step.assign); exact rfl; exact rfl) | ((with_reducible apply Step.load); exact rfl; (focus (decide +kernel)); exact rfl; (focus (exact Rd.old _ (by assumption)))) | ((with_reducible apply Step.loadL (n := 4)); exact rfl; (focus (decide +kernel)); (focus (decide +kernel)); exact rfl; (focus (exact RdL.new rfl rfl)); exact rfl; exact rfl) | ((with_reducible apply Step.ix1); exact rfl; (focus (assumption)); exact rfl; (focus (decide +kernel)); exact rfl; (focus (omega))) | ((with_reducible apply Step.lenS); exact rfl; exact un9; exact rfl) | ((with_reducible apply Step.len); exact rfl; (focus (assumption)); (focus (decide +kernel)); exact rfl) | ((with_reducible apply Step.not); exact rfl; exact rfl) | ((with_reducible apply Step.pickF); exact rfl; exact rfl; exact rfl; exact rfl; (focus (rfl))) | ((with_reducible apply Step.callR fit); exact rfl; exact Tryd.func99; exact rfl; exact rfl; exact (h1 _)) | ((with_reducible apply Step.callR fit); exact rfl; exact Tryd.func121; exact rfl; exact rfl; exact (h2 _)) | ((with_reducible apply Step.callR fit); exact rfl; exact Tryd.func122; exact rfl; exact rfl; exact (h3 _)) | ((with_reducible apply Step.box 0); exact rfl; exact rfl; (focus (kernel_rfl)); exact rfl; (focus (first | (simp only [List.nil_append, List.cons_append, List.set_cons_zero, List.set_cons_succ, iv_set, bv_set, iv_rep, bv_rep]; done) | (simp only [List.nil_append, List.cons_append, List.set_cons_zero, List.set_cons_succ, iv_set, bv_set, iv_rep, bv_rep]; rfl) | rfl)))) | (with_reducible refine AWo.nil ?_) | ((with_reducible apply AW.seq)) | ((with_reducible apply Then.n)) | ((with_reducible apply AW.regL)) | ((with_reducible apply AW.block)) | ((with_reducible apply AW.drawL fit); (focus (decide +kernel))) | ((with_reducible apply InBlk.n)) | ((with_reducible apply AW.skip)) | ((with_reducible apply AW.condF); exact rfl; (focus (rfl)))))
  (refine AW.retD (l := [(4, _)]) (by repeat (first | exact trivial | (refine And.intro ⟨rfl, by (exact .int _ _)⟩ ?_))) ?_; (repeat (first | refine Then.r ?_ | refine InBlk.r ?_)))
  exact ⟨_, rfl, rfl, rfl⟩
set_option maxHeartbeats 4000000 in
set_option maxRecDepth 100000 in
theorem Punch_ok {m : AM} {sv : Value} {B : Brd} {r : R4} (hs : Strs m sv B) (hv : skinB B = true) (hr : r.ok (bw B) (bh B)) : ACall Tryd.prog 91 #[sv, r.rc.v] m (More (fun M w => ∃ u, w = .tuple #[u, .int .i64 0] ∧ Strs M u (punch B r)) m) := by
  have hin := skin_in hv
  have hF := fun T => sfits_ok (hs.old T) hv hr
  have h16 : r.x ≤ 48 ∧ r.y ≤ 48 ∧ r.a ≤ 48 ∧ r.b ≤ 48 := by unfold R4.ok at hr; omega
  obtain ⟨A, O, sl, la, rd⟩ := id hs
  have r0 := rd 0 hin.1.1
  have hl0 : 0 < B.length := hin.1.1
  obtain ⟨q, c, rfl⟩ := sl.shape
  have hT : ∀ M0, M0 = m ++ [some { cells := [.slice q B.length c] }, some { cells := r.rc.cells }] → ACall Tryd.prog 110 #[.int .i64 ((rowOf B 0).size : Nat), .int .i64 (B.length : Nat), .func (.func 111) #[] #[.pointer (some ⟨m.length + 1, 0, none⟩), .pointer (some ⟨m.length + 0, 0, none⟩)]] M0 (New (some { cells := picK (pxl B r) (bw B) (bh B) (bh B) }) (bh B) M0) := fun M0 e => by
    have hl : M0.length = m.length + 2 := by rw [e]; simp
    refine turned_ok (w := bw B) (h := bh B) hin.2 hin.1 Tryd.func111 rfl (Low.func (c := [_, _]) (by intro v hv; simp only [List.mem_cons, List.not_mem_nil, or_false] at hv; rcases hv with rfl | rfl <;> exact Low.ptr (by omega))) fun x y hx hy T => ?_
    have e2 : M0 ++ T = m ++ (some { cells := [.slice q B.length c] } :: some { cells := r.rc.cells } :: T) := by rw [e]; simp
    rw [e2]
    exact pcell_ok (hs.old _) (Rd.new rfl rfl) (RdL.new rfl rfl) h16 hy (by rw [(skinRow hv hy).1]; exact hx)
  change ∀ T, ACall Tryd.prog 109 #[_, .agg r.rc.cells.toArray] _ _ at hF
  change ACall Tryd.prog 91 #[_, .agg r.rc.cells.toArray] m _
  refine ACall.start Tryd.func91 rfl rfl ?_
  (repeat (first | (with_reducible refine AWo.cons ?_) | ((with_reducible refine Step.id ?_); first | ((with_reducible apply Step.move); exact rfl; exact rfl) | ((with_reducible apply Step.assign); exact rfl; exact rfl) | ((with_reducible apply Step.load); exact rfl; (focus (decide +kernel)); exact rfl; (focus (first | exact Rd.new rfl rfl | exact Rd.old _ (by assumption)))) | ((with_reducible apply Step.loadL (n := 4)); exact rfl; (focus (decide +kernel)); (focus (decide +kernel)); exact rfl; (focus (exact RdL.new rfl rfl)); exact rfl; exact rfl) | ((with_reducible apply Step.ix1); exact rfl; (focus (assumption)); exact rfl; (focus (decide +kernel)); exact rfl; (focus (omega))) | ((with_reducible apply Step.lenS); exact rfl; exact un9; exact rfl) | ((with_reducible apply Step.neq); exact rfl; exact rfl; exact rfl) | ((with_reducible apply Step.len); exact rfl; (focus (assumption)); (focus (decide +kernel)); exact rfl) | ((with_reducible apply Step.fn); exact rfl; exact rfl; exact rfl) | ((with_reducible apply Step.callR fit); exact rfl; exact Tryd.func109; exact rfl; exact rfl; exact (hF _)) | ((with_reducible apply Step.callN fit (k := 2)); exact rfl; exact rfl; exact Tryd.func110; exact rfl; exact rfl; exact (hT _ rfl); (focus (first | (simp only [List.nil_append, List.cons_append, List.set_cons_zero, List.set_cons_succ, iv_set, bv_set, iv_rep, bv_rep]; done) | (simp only [List.nil_append, List.cons_append, List.set_cons_zero, List.set_cons_succ, iv_set, bv_set, iv_rep, bv_rep]; rfl) | rfl))) | ((with_reducible apply Step.box 0); exact rfl; exact rfl; (focus (kernel_rfl)); exact rfl; (focus (first | (simp only [List.nil_append, List.cons_append, List.set_cons_zero, List.set_cons_succ, iv_set, bv_set, iv_rep, bv_rep]; done) | (simp only [List.nil_append, List.cons_append, List.set_cons_zero, List.set_cons_succ, iv_set, bv_set, iv_rep, bv_rep]; rfl) | rfl))) | ((with_reducible apply Step.box 1); exact rfl; exact rfl; (focus (kernel_rfl)); exact rfl; (focus (first | (simp only [List.nil_append, List.cons_append, List.set_cons_zero, List.set_cons_succ, iv_set, bv_set, iv_rep, bv_rep]; done) | (simp only [List.nil_append, List.cons_append, List.set_cons_zero, List.set_cons_succ, iv_set, bv_set, iv_rep, bv_rep]; rfl) | rfl)))) | (with_reducible refine AWo.nil ?_) | ((with_reducible apply AW.seq)) | ((with_reducible apply Then.n)) | ((with_reducible apply AW.regL)) | ((with_reducible apply AW.drawL fit); (focus (decide +kernel))) | ((with_reducible apply AW.skip)) | ((with_reducible apply AW.condF); exact rfl; (focus (rfl)))))
  (refine AW.ret ?_; (repeat (first | refine Then.r ?_ | refine InBlk.r ?_)))
  refine ⟨_, rfl, [some { cells := [.slice q B.length c] }, some { cells := r.rc.cells }, some { cells := picK (pxl B r) (bw B) (bh B) (bh B) }], rfl, _, rfl, ?_⟩
  rw [punch_pic]
  exact picB_strs (b := { cells := picK (pxl B r) (bw B) (bh B) (bh B) }) (by rw [get_app]; rfl) rfl rfl
end Go.Proofs.YtibhgdglbillaaaDoor.Abs
namespace Go.Proofs.YtibhgdglbillaaaDoor.Abs
set_option linter.unusedSimpArgs false
set_option linter.unusedVariables false
open Go.RowKit
open Go.Proofs.YtibhgdglbillaaaDoor.Sim
open Go.Proofs
/-- Pieces in a row of one's own. -/
def PP (M : AM) (b0 : Nat) (u : Value) (l : List Plc) : Prop := Row M b0 6 u (plc l) l.length
theorem PP.nil {M : AM} {b0 : Nat} : PP M b0 (.slice none 0 0) [] := Row.nil
theorem PP.pcs {M : AM} {b0 : Nat} {u : Value} {l : List Plc} (h : PP M b0 u l) (hM : 0 < M.length) : Pcs M u l := by
  obtain ⟨a, h1, h2, h3⟩ := Row.sl h hM
  refine ⟨a, 0, h1, h2, fun i hi => ?_⟩
  obtain ⟨b, k1, k2⟩ := h3 (by omega)
  exact ⟨b, k1, fun j v hj => by
    have := k2 _ v (plc_get l i hi j v hj)
    rw [Nat.zero_add] at this
    rwa [Nat.zero_add]⟩
end Go.Proofs.YtibhgdglbillaaaDoor.Abs
namespace Go.Proofs.YtibhgdglbillaaaDoor.Abs
set_option linter.unusedSimpArgs false
set_option linter.unusedVariables false
open Go.RowKit
open Go.Proofs.YtibhgdglbillaaaDoor.Sim
open Go.Proofs
theorem rdg_good {B : Brd} {K : List Kd} {ps : List Nd} (h : (rdgM B K ps).2 = 0) : goodB B K = true := by
  unfold rdgM at h
  split at h
  · assumption
  · cases h
end Go.Proofs.YtibhgdglbillaaaDoor.Abs
namespace Go.Proofs.YtibhgdglbillaaaDoor.Abs
set_option linter.unusedSimpArgs false
set_option linter.unusedVariables false
open Go.RowKit
open Go.Proofs.YtibhgdglbillaaaDoor.Sim
open Go.ChangeShapes Go.WideShapes Go.Deep
def RelSelf (v : Value) : Prop := ∃ c, v = .agg c ∧ ∀ R, Rel R (.agg c) (.agg c)
def Okarg3 (W : World) (a : AR) : Prop := Okarg W a ∨ RelSelf a.1
theorem top_call3 {P : Program} {f : FuncId} {W : World} (ars : List AR) (h : ∀ a ∈ ars, Okarg3 W a) (hc : ACall P f (mkVs 0 ars).toArray (ars.map mkB) (Ret (.bool true) (ars.map mkB))) :
    Calls P f (ars.map (·.1)).toArray W fun e w' => e = .returned (.bool true) ∧ Below W.heap.size W w' := by
  let R : Pl := fun i => (ars[i]?).bind mkP
  have hm : MRep W.heap.size R (ars.map mkB) W := by
    refine ⟨fun i hi => ?_, fun i b hi => ?_, fun i j b c p q hi hj hb _ _ _ _ => ?_⟩
    · simp only [List.length_map] at hi
      simp [R, List.getElem?_eq_none hi]
    · rw [List.getElem?_map] at hi
      cases ha : ars[i]? with
      | none => rw [ha] at hi; cases hi
      | some a =>
        rw [ha] at hi
        simp only [Option.map_some, Option.some.injEq] at hi
        obtain ⟨v, c⟩ := a
        rcases h _ (List.mem_of_getElem? ha) with (h1 | ⟨bb, o, n, cap, h1, h2, h3, h4, h5⟩) | ⟨l, h1, hl⟩
        · simp only at h1
          cases v with
          | slice x n cap => cases x with
            | none => simp [mkB] at hi
            | some x => simp [g0] at h1
          | _ => simp [mkB] at hi
        · simp only at h1
          subst h1
          simp only [mkB, Option.some.injEq] at hi
          subst hi
          refine ⟨⟨bb, o, cap - n⟩, by simp [R, ha, mkP], h3, ?_⟩
          refine ⟨fun e => by simp at e, fun j x hj => ⟨x, h4 j x hj, g0_rel (h5 x (List.mem_of_getElem? hj))⟩⟩
        · simp only at h1
          subst h1
          simp [mkB] at hi
    · rw [List.getElem?_map] at hi
      cases ha : ars[i]? with
      | none => rw [ha] at hi; cases hi
      | some a =>
        rw [ha] at hi
        simp only [Option.map_some, Option.some.injEq] at hi
        obtain ⟨v, c'⟩ := a
        cases v with
        | slice x n cap => cases x with
          | none => simp [mkB] at hi
          | some x => simp only [mkB, Option.some.injEq] at hi; subst hi; cases hb
        | _ => simp [mkB] at hi
  have hargs : Rels R (mkVs 0 ars).toArray (ars.map (·.1)).toArray := by
    refine ⟨by simp [mkVs_len], fun i hi => ?_⟩
    simp only [List.size_toArray, mkVs_len] at hi
    have ha : ars[i]? = some ars[i] := List.getElem?_eq_getElem hi
    have e1 : (mkVs 0 ars).toArray.getD i undef = mkV i ars[i].1 := by
      simp [mkVs_get, ha]
    have e2 : (ars.map (·.1)).toArray.getD i undef = ars[i].1 := by simp [hi]
    rw [e1, e2]
    generalize ars[i] = a at ha
    obtain ⟨v, c⟩ := a
    rcases h _ (List.mem_of_getElem? ha) with (h1 | ⟨bb, o, n, cap, h1, h2, h3, h4, h5⟩) | ⟨l, h1, hl⟩
    · simp only at h1 ⊢
      cases v with
      | slice x n cap => cases x with
        | none => exact g0_rel h1
        | some x => simp [g0] at h1
      | _ => exact g0_rel h1
    · simp only at h1 ⊢
      subst h1
      have := Rel.slice (R := R) i 0 n n ⟨bb, o, cap - n⟩ (by simp [R, ha, mkP]) (Nat.le_refl _)
      rw [show n + (cap - n) = cap by omega] at this
      simpa [mkV] using this
    · simp only at h1 ⊢
      subst h1
      exact hl R
  refine (hc W.heap.size R W _ (Nat.le_refl _) hm hargs).mono ?_
  rintro e w' ⟨v, v', R', m', rfl, k1, k2, rfl, rfl⟩
  cases k1
  exact ⟨rfl, k2.below hm (Nat.le_refl _)⟩
theorem RelSelf.rect (r : Rc) : RelSelf r.v := ⟨_, rfl, fun R => rel_aggI R [r.x, r.y, r.w, r.h]⟩
theorem RelSelf.kind (k : Kd) : RelSelf k.v := ⟨_, rfl, fun R => .agg _ _ rfl fun i hi => by
  simp at hi
  rcases (show i = 0 ∨ i = 1 ∨ i = 2 ∨ i = 3 ∨ i = 4 by omega) with rfl | rfl | rfl | rfl | rfl
  · exact .int _ _
  · exact .int _ _
  · exact .int _ _
  · exact .int _ _
  · exact .bool _⟩
def sv (l : List ByteArray) : List Value := l.map .string
def kb (y : List Int × Bool) : List Value := iv y.1 ++ [.bool y.2]
theorem g0_kb (y : List Int × Bool) : ∀ v ∈ kb y, g0 v = true := fun v hv => by
  rcases List.mem_append.1 hv with h | h
  · exact g0_iv _ v h
  · simp at h; subst h; rfl
def kindB (P : Program) (f : Field) : Bool := match P.underlying f.type with | some .bool => true | _ => false
def kindI (P : Program) (f : Field) : Bool := match P.underlying f.type with | some (.int .i64) => true | _ => false
def fieldsKB (P : Program) (fs : Array Field) (q : Nat) : Bool := (List.range q).all (fun j => match fs[j]? with | some f => kindI P f | none => false) && match fs[q]? with | some f => kindB P f | none => false
theorem fieldsKB_int {P : Program} {fs : Array Field} {q j : Nat} {f : Field} (h : fieldsKB P fs q = true) (hj : fs[j]? = some f) (hq : j < q) : P.underlying f.type = some (.int .i64) := by
  simp only [fieldsKB, Bool.and_eq_true] at h
  have := List.all_eq_true.1 h.1 j (List.mem_range.2 hq)
  rw [hj] at this
  simp only [kindI] at this
  split at this
  · assumption
  · cases this
theorem fieldsKB_bool {P : Program} {fs : Array Field} {q : Nat} {f : Field} (h : fieldsKB P fs q = true) (hj : fs[q]? = some f) : P.underlying f.type = some .bool := by
  simp only [fieldsKB, Bool.and_eq_true] at h
  have := h.2
  rw [hj] at this
  simp only [kindB] at this
  split at this
  · assumption
  · cases this
section
variable {H : Type} {enc : TypeId × Value → H} {P : Program} {w : World} {base : Nat} {spare : Nat → Bool} {held : Bool}
theorem arg_strs {r : Reach} {b0 : Nat} {T e : TypeId} {a : Option Addr} {n c : Nat} {d : DataW H} {p : List MemPlace} (ht : P.underlying T = some (.slice e)) (he : P.underlying e = some .string) (hce : P.cellsOf e = 1) (hok : Value.okWide P w r b0 T (.slice a n c)) (h : DataW.Trod enc P w base spare held T (.slice a n c) d p) :
    ∃ l : List ByteArray, l.length = n ∧ n ≤ maxLen ∧ Okarg w (.slice a n c, sv l) ∧ ∀ M : AM, ∀ i, M[i]? = some (mkB (.slice a n c, sv l)) → Strs M (mkV i (.slice a n c)) l := by
  obtain ⟨fuel, h⟩ := h
  rcases ok_slice ht hok with ⟨rfl, rfl, rfl⟩ | ⟨b, o, rfl, hle, hlt⟩
  · exact ⟨[], rfl, by unfold maxLen; omega, .inl rfl, fun M i hi => ⟨i, 0, .inl ⟨rfl, rfl⟩, (List.getElem?_eq_some_iff.1 hi).1, fun k hk => by simp at hk⟩⟩
  · rcases open_strs ht he hce h with ⟨hcs, _⟩ | ⟨x, l, cap, m, S, hcs, _, hl, hm, hmm, _, hcell⟩
    · simp [Value.cells] at hcs
    · simp [Value.cells] at hcs
      obtain ⟨rfl, rfl, rfl⟩ := hcs
      have hnm : n ≤ m := by rw [hmm]; split <;> omega
      refine ⟨(List.range n).map S, by simp, by omega, .inr ⟨b, o, n, c, rfl, hle, hlt, fun j x hj => ?_, fun x hx => ?_⟩, fun M i hM => ?_⟩
      · have hjl := (List.getElem?_eq_some_iff.1 hj).1
        simp [sv] at hjl
        have := (hcell j (by omega)).1
        rw [Addr.add_lit] at this
        rw [this]
        simpa [sv, hjl] using hj
      · simp [sv] at hx
        obtain ⟨k, _, rfl⟩ := hx
        rfl
      · simp only [mkB] at hM
        refine ⟨i, 0, by simpa [mkV] using Sl.mk (Nat.le_refl n), (List.getElem?_eq_some_iff.1 hM).1, fun k hk => ⟨_, hM, ?_⟩⟩
        simp at hk
        simp [sv, rowOf, hk]
theorem arg_kb {r : Reach} {b0 : Nat} {T e : TypeId} {fs : Array Field} {a : Option Addr} {n c : Nat} {d : DataW H} {p : List MemPlace} (ht : P.underlying T = some (.slice e)) (he : P.underlying e = some (.struct fs)) (hone : oneCellFields P fs = true) (hC : P.cellsOf e = fs.size)
    {q : Nat} (hq : fs.size = q + 1) (hi : fieldsKB P fs q = true) (hok : Value.okWide P w r b0 T (.slice a n c)) (h : DataW.Trod enc P w base spare held T (.slice a n c) d p) :
    ∃ F : Nat → List Int × Bool, (∀ k, (F k).1.length = q) ∧ n ≤ maxLen ∧ Okarg w (.slice a n c, (List.range n).flatMap fun k => kb (F k)) ∧ (∀ M : AM, ∀ i, M[i]? = some (mkB (.slice a n c, (List.range n).flatMap fun k => kb (F k))) → Sl (mkV i (.slice a n c)) i 0 n ∧ i < M.length ∧ ∀ k, k < n → RdL M i (0 + k * fs.size) (kb (F k))) := by
  obtain ⟨fuel, h⟩ := h
  rcases ok_slice ht hok with ⟨rfl, rfl, rfl⟩ | ⟨b, o, rfl, hle, hlt⟩
  · exact ⟨fun _ => (List.replicate q 0, false), fun _ => by simp, by unfold maxLen; omega, .inl rfl, fun M i hi => ⟨.inl ⟨rfl, rfl⟩, (List.getElem?_eq_some_iff.1 hi).1, fun k hk => by omega⟩⟩
  · rcases open_slice_fields ht he hone hC h with ⟨hcs, _⟩ | ⟨x, l, cap, m, D, Pl, hcs, _, hl, hm, hmm, _, hrow⟩
    · simp [Value.cells] at hcs
    · simp [Value.cells] at hcs
      obtain ⟨rfl, rfl, rfl⟩ := hcs
      have key : ∀ k : Nat, ∃ y : List Int × Bool, y.1.length = q ∧ (k < n → ∀ j v, (kb y)[j]? = some v → w.cell? ⟨b, o + (k * fs.size + j), none⟩ = some v) := fun k => by
        by_cases hk : k < n
        · obtain ⟨ys, nn, _, _, _, hf⟩ := hrow k (by rw [hmm]; split <;> omega)
          have key2 : ∀ j : Nat, ∃ z : Int, j < q → w.cell? ⟨b, o + (k * fs.size + j), none⟩ = some (.int .i64 z) := fun j => by
            by_cases hj : j < q
            · obtain ⟨v, y, h1, _, h3⟩ := hf j fs[j] (Array.getElem?_eq_getElem (by omega))
              obtain ⟨z, hz, _⟩ := DataW.trod_int (fieldsKB_int hi (Array.getElem?_eq_getElem (by omega)) hj) h3
              simp at hz
              subst hz
              rw [Addr.add_lit] at h1
              exact ⟨z, fun _ => h1⟩
            · exact ⟨0, fun h => absurd h hj⟩
          obtain ⟨g, hg⟩ := Classical.axiomOfChoice key2
          obtain ⟨v, y, h1, _, h3⟩ := hf q (fs[q]'(by omega)) (Array.getElem?_eq_getElem (by omega))
          obtain ⟨z, hz, _⟩ := DataW.trod_bool (fieldsKB_bool hi (Array.getElem?_eq_getElem (by omega))) h3
          simp at hz
          subst hz
          rw [Addr.add_lit] at h1
          refine ⟨((List.range q).map g, z), by simp, fun _ j v hj => ?_⟩
          unfold kb at hj
          rcases Nat.lt_trichotomy j q with h | rfl | h
          · rw [List.getElem?_append_left (by simpa [iv] using h), iv_get (by simpa using h)] at hj
            injection hj with hj
            rw [hg j h, ← hj]
            simp [h]
          · rw [List.getElem?_append_right (by simp [iv])] at hj
            simp [iv] at hj
            rw [← hj]; exact h1
          · rw [List.getElem?_eq_none (by simp [iv]; omega)] at hj
            cases hj
        · exact ⟨(List.replicate q 0, false), by simp, fun h => absurd h hk⟩
      obtain ⟨F, hF⟩ := Classical.axiomOfChoice key
      have hlenF : ∀ k, (kb (F k)).length = fs.size := fun k => by unfold kb; rw [List.length_append, iv_len, (hF k).1, hq]; rfl
      have get : ∀ q, ∀ k, k < q → ∀ j v, (kb (F k))[j]? = some v → ((List.range q).flatMap fun k => kb (F k))[k * fs.size + j]? = some v := by
        intro q
        induction q with
        | zero => intro k hk; omega
        | succ q ih =>
          intro k hk j v hj
          have hjl : j < fs.size := by
            have := (List.getElem?_eq_some_iff.1 hj).1
            rwa [hlenF] at this
          have hql : ((List.range q).flatMap fun k => kb (F k)).length = q * fs.size := by
            clear ih hk hj
            induction q with
            | zero => simp
            | succ q ih2 => rw [List.range_succ, List.flatMap_append, List.length_append, ih2]; simp [hlenF, Nat.add_mul]
          rw [List.range_succ, List.flatMap_append]
          rcases Nat.lt_succ_iff_lt_or_eq.1 hk with h' | h'
          · have h2 : k * fs.size + fs.size ≤ q * fs.size := by
              have := Nat.mul_le_mul_right fs.size (show k + 1 ≤ q by omega)
              rw [Nat.add_mul] at this; omega
            rw [List.getElem?_append_left (by rw [hql]; omega)]
            exact ih k h' j v hj
          · subst h'
            rw [List.getElem?_append_right (by rw [hql]; omega), hql, Nat.add_sub_cancel_left]
            simpa using hj
      have tot : ∀ q, ((List.range q).flatMap fun k => kb (F k)).length = q * fs.size := fun q => by
        induction q with
        | zero => simp
        | succ q ih2 => rw [List.range_succ, List.flatMap_append, List.length_append, ih2]; simp [hlenF, Nat.add_mul]
      refine ⟨F, fun k => (hF k).1, by omega, .inr ⟨b, o, n, c, rfl, hle, hlt, fun j x hj => ?_, fun x hx => ?_⟩, fun M i hM => ?_⟩
      · have hjl := (List.getElem?_eq_some_iff.1 hj).1
        simp only at hjl hj
        rw [tot] at hjl
        have hs : 0 < fs.size := by
          rcases Nat.eq_zero_or_pos fs.size with h0 | h0
          · rw [h0] at hjl; omega
          · exact h0
        have hk : j / fs.size < n := (Nat.div_lt_iff_lt_mul hs).2 hjl
        have hr : j % fs.size < fs.size := Nat.mod_lt _ hs
        have e : j = j / fs.size * fs.size + j % fs.size := by rw [Nat.mul_comm]; exact (Nat.div_add_mod j fs.size).symm
        obtain ⟨v, hv⟩ : ∃ v, (kb (F (j / fs.size)))[j % fs.size]? = some v := ⟨_, List.getElem?_eq_getElem (by rw [hlenF]; exact hr)⟩
        have h1 := get n (j / fs.size) hk (j % fs.size) v hv
        rw [← e] at h1
        rw [h1] at hj
        injection hj with hj
        have h2 := (hF (j / fs.size)).2 hk (j % fs.size) v hv
        rw [← e] at h2
        rw [h2, hj]
      · obtain ⟨k, _, hk⟩ := List.mem_flatMap.1 hx
        exact g0_kb _ x hk
      · simp only [mkB] at hM
        refine ⟨Sl.mk (Nat.le_refl _), (List.getElem?_eq_some_iff.1 hM).1, fun k hk => ⟨_, hM, fun j v hj => ?_⟩⟩
        rw [Nat.zero_add]
        exact get n k hk j v hj
def kv (l : List Kd) : List Value := l.flatMap Kd.cells
theorem arg_kinds {r : Reach} {b0 : Nat} {T e : TypeId} {fs : Array Field} {a : Option Addr} {n c : Nat} {d : DataW H} {p : List MemPlace} (ht : P.underlying T = some (.slice e)) (he : P.underlying e = some (.struct fs)) (hone : oneCellFields P fs = true) (hC : P.cellsOf e = fs.size)
    (hq : fs.size = 4 + 1) (hi : fieldsKB P fs 4 = true) (hok : Value.okWide P w r b0 T (.slice a n c)) (h : DataW.Trod enc P w base spare held T (.slice a n c) d p) :
    ∃ l : List Kd, l.length = n ∧ n ≤ maxLen ∧ Okarg w (.slice a n c, kv l) ∧ ∀ M : AM, ∀ i, M[i]? = some (mkB (.slice a n c, kv l)) → Kds M (mkV i (.slice a n c)) l := by
  obtain ⟨F, h1, h2, h3, h4⟩ := arg_kb ht he hone hC hq hi hok h
  have key : ∀ k, ∃ x : Kd, kb (F k) = x.cells := fun k => by
    have hk := h1 k
    generalize F k = y at hk ⊢
    obtain ⟨l, b⟩ := y
    simp only at hk
    match l, hk with
    | [x, y, z, u], _ => exact ⟨⟨x, y, z, u, b⟩, rfl⟩
  obtain ⟨G, hG⟩ := Classical.axiomOfChoice key
  have e : ((List.range n).flatMap fun k => kb (F k)) = kv ((List.range n).map G) := by
    unfold kv
    rw [List.flatMap_map]
    congr 1
    funext k
    exact hG k
  rw [e] at h3 h4
  refine ⟨(List.range n).map G, by simp, h2, h3, fun M i hM => ?_⟩
  obtain ⟨k1, k2, k3⟩ := h4 M i hM
  refine ⟨i, 0, by simpa using k1, k2, fun k hk => ?_⟩
  simp at hk
  have := k3 k hk
  rw [hq, hG k] at this
  have eg : ((List.range n).map G).getD k default = G k := by simp [hk]
  rw [eg]
  exact this
end
end Go.Proofs.YtibhgdglbillaaaDoor.Abs
namespace Go.Proofs.YtibhgdglbillaaaDoor.Abs
set_option linter.unusedSimpArgs false
set_option linter.unusedVariables false
open Go.RowKit
open Go.Proofs.YtibhgdglbillaaaDoor.Sim
open Go.Proofs
/-- What is left of a board; nothing if the plan is none. -/
def rstM (B : Brd) (x : List Plc × Int) : Brd := if x.2 = 0 then punchT B x.1 x.1.length else []
theorem bs30e {m : AM} {k : Nat} : abuildSlice Tryd.prog m k 30 0 [] = some (.slice (some ⟨k, 0, none⟩) 0 0, m.set k (some { cells := [] })) := by kernel_rfl
theorem sv_get (B : Brd) {y : Nat} (h : y < B.length) : (sv B)[y]? = some (.string (rowOf B y)) := by
  unfold sv rowOf
  rw [getD_in _ _ h]
  simp [h]
theorem sv_one (B : Brd) : (sv B).all (·.oneCell') = true := by
  rw [List.all_eq_true]
  intro v hv
  simp only [sv, List.mem_map] at hv
  obtain ⟨b, _, rfl⟩ := hv
  rfl
theorem strs_rdl {m : AM} {a o : Nat} {B : Brd} (h0 : 0 < B.length) (rd : ∀ y, y < B.length → Rd m a (o + y) (.string (rowOf B y))) : RdL m a o (sv B) := by
  obtain ⟨b, k1, k2⟩ := rd 0 h0
  refine ⟨b, k1, fun j v hj => ?_⟩
  have hl : j < B.length := by
    have := (List.getElem?_eq_some_iff.1 hj).1
    simpa [sv] using this
  rw [sv_get B hl] at hj
  injection hj with hj
  subst hj
  obtain ⟨b', q1, q2⟩ := rd j hl
  rw [k1] at q1
  injection q1 with q1
  injection q1 with q1
  subst q1
  exact q2
theorem row_strs {M : AM} {b0 n : Nat} {u : Value} {B : Brd} (h : Row M b0 1 u (sv B) n) (hn : n = B.length) (hM : 0 < M.length) : Strs M u B := by
  subst hn
  obtain ⟨a, h1, h2, h3⟩ := Row.sl h hM
  refine ⟨a, 0, h1, h2, fun y hy => ?_⟩
  have := (h3 (by omega)).at_ y (sv_get B hy)
  exact this
theorem strs_nil {M : AM} (hM : 0 < M.length) : Strs M (.slice none 0 0) [] := ⟨0, 0, .inl ⟨rfl, rfl⟩, hM, fun y hy => by simp at hy⟩
set_option maxHeartbeats 8000000 in
set_option maxRecDepth 100000 in
theorem Rest_ok {m : AM} {sv0 kv v : Value} {B : Brd} {K : List Kd} {ps : List Nd} (hs : Strs m sv0 B) (hk : Kds m kv K) (hv : PN m v ps) (hlen : ps.length ≤ 1000000) :
    ACall Tryd.prog 49 #[sv0, kv, v] m (More (fun M w => ∃ u, w = .tuple #[u, .int .i64 (rdgM B K ps).2] ∧ Strs M u (rstM B (rdgM B K ps))) m) := by
  have hR := Reading_ok hs hk hv hlen
  have hM : 0 < m.length := by obtain ⟨A1, O1, sl1, la1, rd1⟩ := hs; omega
  obtain ⟨hl1, hl2, hl3⟩ := rdgM_all (B := B) (K := K) (ps := ps)
  have hgd := rdg_good (B := B) (K := K) (ps := ps)
  generalize rdgM B K ps = x at *
  obtain ⟨l, e⟩ := x
  simp only at hR hl1 hl2 hl3 hgd ⊢
  refine ACall.start Tryd.func49 rfl rfl ?_
  (repeat (first | (with_reducible refine AWo.cons ?_) | ((with_reducible refine Step.id ?_); first | ((with_reducible apply Step.move); exact rfl; exact rfl) | ((with_reducible apply Step.assign); exact rfl; exact rfl)) | (with_reducible refine AWo.nil ?_) | ((with_reducible apply AW.seq)) | ((with_reducible apply Then.n)) | ((with_reducible apply AW.regL))))
  rw [List.append_nil]
  ((with_reducible apply Step.callX fit); exact rfl; exact Tryd.func87; exact rfl; exact rfl; exact hR)
  rintro _ M1 ⟨N1, hN1⟩ ⟨pv, u, rfl, hpc, hbo⟩
  clear hR
  rw [List.append_nil]
  have hml : 0 < M1.length := by rw [hN1, List.length_append]; omega
  by_cases he : e = 0
  · subst he
    obtain ⟨p, rfl, hB⟩ := hbo rfl
    have hg := hgd rfl
    have hgb : boardB B = true := by simp only [goodB, Bool.and_eq_true] at hg; exact hg.1
    have hin := good_in hgb
    have hb0 : 0 < B.length := hin.1
    have hb16 : B.length ≤ 16 := hin.2.1
    obtain ⟨⟨rv, hrv, hrs⟩, _, _, _, _⟩ := hB
    obtain ⟨A1, O1, sl1, la1, rd1⟩ := hrs
    have hrdl : RdL M1 A1 O1 (sv B) := strs_rdl hb0 rd1
    have hr0 : rstM B (l, 0) = punchT B l l.length := rfl
    rw [hr0]
    (repeat (first | (with_reducible refine AWo.cons ?_) | ((with_reducible refine Step.id ?_); first | ((with_reducible apply Step.move); exact rfl; exact rfl) | ((with_reducible apply Step.assign); exact rfl; exact rfl) | ((with_reducible apply Step.neq); exact rfl; exact rfl; exact rfl) | ((with_reducible apply Step.extract); exact rfl; exact rfl; exact rfl)) | (with_reducible refine AWo.nil ?_) | ((fail_if_success (with_reducible refine AW.atR (id := 4) ?_)); ((with_reducible apply AW.seq))) | ((with_reducible apply Then.n)) | ((with_reducible apply AW.regL)) | ((with_reducible apply AW.skip)) | ((with_reducible apply AW.condF); exact rfl; (focus (rfl)))))
    refine AW.rebase ?_
    (repeat (first | (with_reducible refine AWo.cons ?_) | ((with_reducible refine Step.id ?_); first | ((with_reducible apply Step.move); exact rfl; exact rfl) | ((with_reducible apply Step.load); exact rfl; (focus (decide +kernel)); exact rfl; (focus (exact Rd.old _ (by assumption)))) | ((with_reducible apply Step.field0); exact rfl; (focus (decide +kernel)); exact rfl) | ((with_reducible apply Step.nilp); exact rfl; exact rfl) | ((with_reducible apply Step.buildS 0); exact rfl; exact rfl; exact (fun _ _ => bs30e); exact rfl; (focus (first | (simp only [List.nil_append, List.cons_append, List.set_cons_zero, List.set_cons_succ, iv_set, bv_set, iv_rep, bv_rep]; done) | (simp only [List.nil_append, List.cons_append, List.set_cons_zero, List.set_cons_succ, iv_set, bv_set, iv_rep, bv_rep]; rfl) | rfl)))) | ((with_reducible apply AW.seq)) | ((with_reducible apply AW.regL))))
    ((with_reducible apply Step.appRow (s := 1) (n := 0) (xl := B.length) (b0 := M1.length) (c := [])); exact rfl; exact rfl; exact (.inr ⟨M1.length + 0, .own, 1, by omega, rfl, by rw [get_app]; rfl, rfl, .inl rfl⟩); exact sl1; exact (fun _ => hrdl.old _); exact el30; exact un30; (focus (simp [sv])); exact (sv_one B); exact rfl; (focus (omega)); exact rfl; (focus (simp)))
    intro ux Mx hrow hlx hkx
    obtain ⟨Nx, hNx⟩ : ∃ N, Mx = M1 ++ N := pre_keep ⟨_, rfl⟩ hlx fun j hj => hkx j (by rw [List.length_append]; omega) (fun n c e => by injection e with e _ _; injection e with e; injection e with e _ _; omega)
    have hx0 : Strs Mx ux B := row_strs (by rw [List.nil_append] at hrow; exact hrow) (Nat.zero_add _) (by rw [hNx, List.length_append]; omega)
    obtain ⟨A4, O4, sl4, la4, rd4⟩ := id hpc
    (repeat (first | (with_reducible refine AWo.cons ?_) | ((with_reducible refine Step.id ?_); first | ((with_reducible apply Step.move); exact rfl; exact rfl) | ((with_reducible apply Step.assign); exact rfl; exact rfl) | ((with_reducible apply Step.len); exact rfl; (focus (assumption)); (focus (decide +kernel)); exact rfl)) | (with_reducible refine AWo.nil ?_) | ((with_reducible apply AW.seq)) | ((with_reducible apply Then.n)) | ((with_reducible apply AW.regL)) | ((with_reducible apply AW.block))))
    refine AW.loopW (fun n t M' => ∃ (i : Nat) (uy : Value), n = l.length - i ∧ i ≤ l.length ∧ (∃ N, M' = M1 ++ N) ∧ Strs M' uy (punchT B l i) ∧
      t = fr [(11, uy), (31, u), (32, .int .i64 (l.length : Nat)), (33, .int .i64 (i : Nat))])
      ⟨_, _, (by repeat (first | exact trivial | (refine And.intro rfl ?_))), 0, ux, rfl, Nat.zero_le _, ⟨_, hNx⟩, hx0, rfl⟩ ?_
    rintro n t M' ⟨i, uy, rfl, hi, ⟨N', hN'⟩, hsy, rfl⟩
    rcases Nat.lt_or_ge i l.length with hlt | hge
    · have rp : ∀ T, RdL (M' ++ T) A4 (O4 + i * 6) (plc1 (l.getD i default)) := fun T => by rw [hN', List.append_assoc]; exact (rd4 i hlt).old _
      have hmem : l.getD i default ∈ l := by rw [getD_in _ _ hlt]; exact List.getElem_mem hlt
      obtain ⟨_, hx, _, _⟩ := hl3 _ hmem
      obtain ⟨q1, q2, q3⟩ := punchT_board hgb l i
      have hP := fun T => Punch_ok (r := (l.getD i default).2.1) (hsy.old T) (board_skin q1) (by rw [q2, q3]; exact hx)
      have hnx : punch (punchT B l i) (l.getD i default).2.1 = punchT B l (i + 1) := rfl
      rw [hnx] at hP
      generalize l.getD i default = y at *
      obtain ⟨yk, yr, yt⟩ := y
      simp only at hP hx
      change ∀ T, ACall Tryd.prog 91 #[_, .agg yr.rc.cells.toArray] _ _ at hP
      simp only [plc1] at rp
      generalize hyr : yr.rc = rc at *
      obtain ⟨rx, ry, rw', rh⟩ := rc
      simp only [Rc.cells, List.cons_append, List.nil_append] at rp hP
      refine AW.rebase ?_
      have rq : ∀ T, RdL (M' ++ (some { cells := [.int .i64 (yk : Nat), .int .i64 rx, .int .i64 ry, .int .i64 rw', .int .i64 rh, .bool yt] } :: T)) (M'.length + 0) (0 + 1) [.int .i64 rx, .int .i64 ry, .int .i64 rw', .int .i64 rh] := fun T => ⟨_, by rw [get_app]; rfl, fun j v hj => by rcases j with _ | _ | _ | _ | j <;> first | exact hj | (simp at hj)⟩
      (repeat (first | (with_reducible refine AWo.cons ?_) | ((with_reducible refine Step.id ?_); first | ((with_reducible apply Step.move); exact rfl; exact rfl) | ((with_reducible apply Step.loadL (n := 4)); exact rfl; (focus (decide +kernel)); (focus (decide +kernel)); exact rfl; (focus (exact rq _)); exact rfl; exact rfl) | ((with_reducible apply Step.loadL (n := 6)); exact rfl; (focus (decide +kernel)); (focus (decide +kernel)); exact rfl; (focus (exact rp _)); exact rfl; exact rfl) | ((with_reducible apply Step.ix (s := 6)); exact rfl; (focus (assumption)); exact rfl; (focus (decide +kernel)); exact rfl; (focus (omega))) | ((with_reducible apply Step.field (k := 1)); exact rfl; (focus (decide +kernel)); exact rfl) | ((with_reducible apply Step.lss); exact rfl; exact rfl; exact rfl) | ((with_reducible apply Step.alloc 0); exact rfl; exact ze81; exact rfl; (focus (first | (simp only [List.nil_append, List.cons_append, List.set_cons_zero, List.set_cons_succ, iv_set, bv_set, iv_rep, bv_rep]; done) | (simp only [List.nil_append, List.cons_append, List.set_cons_zero, List.set_cons_succ, iv_set, bv_set, iv_rep, bv_rep]; rfl) | rfl))) | ((with_reducible apply Step.storeA (k := 0) (n := 6)); exact rfl; exact rfl; exact rfl; exact rfl; (focus (decide +kernel)); exact rfl; (focus (kernel_rfl)); exact rfl; (focus (first | (simp only [List.nil_append, List.cons_append, List.set_cons_zero, List.set_cons_succ, iv_set, bv_set, iv_rep, bv_rep]; done) | (simp only [List.nil_append, List.cons_append, List.set_cons_zero, List.set_cons_succ, iv_set, bv_set, iv_rep, bv_rep]; rfl) | rfl)))) | (with_reducible refine AWo.nil ?_) | ((with_reducible apply AW.seq)) | ((with_reducible apply Then.n)) | ((with_reducible apply AW.regL)) | ((with_reducible apply AW.block)) | ((with_reducible apply AW.skip)) | ((with_reducible apply AW.condT); exact rfl; (focus ((simp only [decide_eq_true_eq, decide_eq_false_iff_not, Bool.not_eq_true', Bool.not_eq_false', Bool.not_true, Bool.not_false]; first | assumption | omega))))))
      ((with_reducible apply Step.callX fit); exact rfl; exact Tryd.func91; exact rfl; exact rfl; exact (hP _))
      rintro _ M2 ⟨N2, hN2⟩ ⟨u2, rfl, hs2⟩
      (repeat (first | (with_reducible refine AWo.cons ?_) | ((with_reducible refine Step.id ?_); first | ((with_reducible apply Step.move); exact rfl; exact rfl) | ((with_reducible apply Step.assign); exact rfl; exact rfl) | ((with_reducible apply Step.add); exact rfl; exact rfl; (focus (omega)); exact rfl) | ((with_reducible apply Step.extract); exact rfl; exact rfl; exact rfl)) | (with_reducible refine AWo.nil ?_) | ((with_reducible apply Then.n)) | ((with_reducible apply AW.regL)) | ((with_reducible apply InBlk.n))))
      exact ⟨_, _, by omega, (by repeat (first | exact trivial | (refine And.intro rfl ?_))), i + 1, u2, rfl, by omega, by rw [hN2, hN']; exact ⟨_, by simp only [List.append_assoc]; rfl⟩, hs2.old _, rfl⟩
    · obtain rfl : i = l.length := by omega
      (repeat (first | (with_reducible refine AWo.cons ?_) | ((with_reducible refine Step.id ?_); first | ((with_reducible apply Step.move); exact rfl; exact rfl) | ((with_reducible apply Step.assign); exact rfl; exact rfl) | ((with_reducible apply Step.lss); exact rfl; exact rfl; exact rfl)) | (with_reducible refine AWo.nil ?_) | ((with_reducible apply AW.seq)) | ((with_reducible apply Then.n)) | ((with_reducible apply AW.regL)) | ((with_reducible apply AW.exit)) | ((with_reducible apply InBlk.hit)) | ((with_reducible apply Then.e)) | ((with_reducible apply AW.condF); exact rfl; (focus ((simp only [decide_eq_true_eq, decide_eq_false_iff_not, Bool.not_eq_true', Bool.not_eq_false', Bool.not_true, Bool.not_false]; first | assumption | omega))))))
      (refine AW.ret ?_; (repeat (first | refine Then.r ?_ | refine InBlk.r ?_)))
      exact ⟨_, rfl, N1 ++ N', by rw [hN', hN1, List.append_assoc], _, rfl, hsy⟩
  · have hc : rstM B (l, e) = [] := by unfold rstM; rw [if_neg he]
    rw [hc]
    (repeat (first | (with_reducible refine AWo.cons ?_) | ((with_reducible refine Step.id ?_); first | ((with_reducible apply Step.move); exact rfl; exact rfl) | ((with_reducible apply Step.assign); exact rfl; exact rfl) | ((with_reducible apply Step.neq); exact rfl; exact rfl; exact rfl) | ((with_reducible apply Step.extract); exact rfl; exact rfl; exact rfl)) | (with_reducible refine AWo.nil ?_) | ((with_reducible apply AW.seq)) | ((with_reducible apply Then.n)) | ((with_reducible apply AW.regL)) | ((with_reducible apply AW.condT); exact rfl; (focus ((simp only [decide_eq_true_eq, decide_eq_false_iff_not, Bool.not_eq_true', Bool.not_eq_false', Bool.not_true, Bool.not_false]; first | assumption | omega))))))
    (refine AW.ret ?_; (repeat (first | refine Then.r ?_ | refine InBlk.r ?_)))
    exact ⟨_, rfl, N1, by rw [hN1], _, rfl, strs_nil (by rw [hN1, List.length_append]; omega)⟩
section
variable {nt : Nat} {ops : Array Oper} {t : Fm} {m : AM} {K : Fm → AM → Prop} {d T : Nat} {p : String} {af : Array Edge}
end
end Go.Proofs.YtibhgdglbillaaaDoor.Abs
namespace Go.Proofs.YtibhgdglbillaaaDoor.Abs
set_option linter.unusedSimpArgs false
set_option linter.unusedVariables false
open Go.RowKit
open Go.Proofs.YtibhgdglbillaaaDoor.Sim
open Go.Proofs
theorem pre_up {m M M' : AM} (h : ∃ N, M = m ++ N) (h' : ∃ N, M' = M ++ N) : ∃ N, M' = m ++ N := by
  obtain ⟨N, rfl⟩ := h
  obtain ⟨N', rfl⟩ := h'
  exact ⟨_, List.append_assoc _ _ _⟩
end Go.Proofs.YtibhgdglbillaaaDoor.Abs
namespace Go.Proofs.YtibhgdglbillaaaDoor.Abs
set_option linter.unusedSimpArgs false
set_option linter.unusedVariables false
open Go.RowKit
open Go.Proofs.YtibhgdglbillaaaDoor.Sim
open Go.Proofs
theorem el91 : elemB Tryd.prog 91 = some (4, 1, 1, #[.bool false]) := by kernel_rfl
theorem areaT_mono (l : List Plc) {k : Nat} : ∀ n, areaT l k ≤ areaT l (k + n)
  | 0 => Nat.le_refl _
  | n + 1 => by
    have := areaT_mono l (k := k) n
    rw [← Nat.add_assoc]
    simp only [areaT]
    omega
set_option maxHeartbeats 16000000 in
set_option maxRecDepth 100000 in
theorem CutPlans_ok {m : AM} {sv kv : Value} {B : Brd} {K : List Kd} (hs : Strs m sv B) (hk : Kds m kv K) (hkl : K.length ≤ 9223372036854775807) :
    ACall Tryd.prog 14 #[sv, kv] m (Ret (.bool true) m) := by
  have h3 := fun T => of_ok (hk.old T) hkl
  have hM : 0 < m.length := by obtain ⟨A1, O1, sl1, la1, rd1⟩ := hs; omega
  cases hg : goodB B K with
  | false =>
    have hg' : goodB B (K.take 14) = false := by rw [good_take]; exact hg
    have hG := fun T => RGood_ok (hs.old T) (hk.old T)
    rw [hg] at hG
    refine ACall.start Tryd.func14 rfl rfl ?_
    (repeat (first | (with_reducible refine AWo.cons ?_) | ((with_reducible refine Step.id ?_); first | ((with_reducible apply Step.gdT); exact rfl; exact rfl; (focus (rfl))) | ((with_reducible apply Step.move); exact rfl; exact rfl) | ((with_reducible apply Step.assign); exact rfl; exact rfl) | ((with_reducible apply Step.eql); exact rfl; exact rfl; exact rfl) | ((with_reducible apply Step.len); exact rfl; (focus (exact Sl.nil 0 0)); (focus (decide +kernel)); exact rfl) | ((with_reducible apply Step.not); exact rfl; exact rfl) | ((with_reducible apply Step.extract); exact rfl; exact rfl; exact rfl) | ((with_reducible apply Step.pickT); exact rfl; exact rfl; exact rfl; exact rfl; (focus (rfl))) | ((with_reducible apply Step.callG fit (k := 0)); exact rfl; exact rfl; exact Tryd.func23; exact rfl; exact rfl; exact (h3 _); (focus (first | (simp only [List.nil_append, List.cons_append, List.set_cons_zero, List.set_cons_succ, iv_set, bv_set, iv_rep, bv_rep]; done) | (simp only [List.nil_append, List.cons_append, List.set_cons_zero, List.set_cons_succ, iv_set, bv_set, iv_rep, bv_rep]; rfl) | rfl))) | ((with_reducible apply Step.callR fit); exact rfl; exact Tryd.func34; exact rfl; exact rfl; exact (Plan_no (hs.old _) (kds_at (l := K.take 14) rfl) hg')) | ((with_reducible apply Step.callR fit); exact rfl; exact Tryd.func24; exact rfl; exact rfl; exact (hG _)) | ((with_reducible apply Step.callR fit); exact rfl; exact Tryd.func21; exact rfl; exact rfl; exact (awake_ok))) | (with_reducible refine AWo.nil ?_) | ((with_reducible apply AW.seq)) | ((with_reducible apply Then.n)) | ((with_reducible apply AW.regL)) | ((with_reducible apply AW.condT); exact rfl; (focus (rfl)))))
    (refine AW.retD (l := [(4, _)]) (by repeat (first | exact trivial | (refine And.intro ⟨rfl, by (exact .bool _)⟩ ?_))) ?_; (repeat (first | refine Then.r ?_ | refine InBlk.r ?_)))
    exact ⟨_, rfl, rfl, rfl⟩
  | true =>
    have et := good_len hg
    rw [et] at h3
    have hgb : boardB B = true := by simp only [goodB, Bool.and_eq_true] at hg; exact hg.1
    have hin := good_in hgb
    have hb0 : 0 < B.length := hin.1
    have hb16 : B.length ≤ 16 := hin.2.1
    have hw16 : (rowOf B 0).size ≤ 16 := hin.2.2.2
    have hw1 : 1 ≤ (rowOf B 0).size := hin.2.2.1
    have hpl : (planM B K).length ≤ 4294967296 := by
      have := plM_len (B := B) (K := K) 32 (wholeR B)
      unfold planM
      omega
    obtain ⟨l, rl, rw1, rpw⟩ := rdg_plan hg
    have haw : ∀ M, ACall Tryd.prog 21 #[] M (Ret (.bool true) M) := fun M => awake_ok
    have S0 : ∀ M, (∃ N, M = m ++ N) → Strs M sv B := fun M ⟨N, e⟩ => by rw [e]; exact hs.old _
    have K0 : ∀ M, (∃ N, M = m ++ N) → Kds M kv K := fun M ⟨N, e⟩ => by rw [e]; exact hk.old _
    have O := fun M h T => of_ok ((K0 M h).old T) hkl
    rw [et] at O
    have hm0 : ∃ N, m = m ++ N := ⟨[], (List.append_nil m).symm⟩
    refine ACall.drop (.bool _) ?_
    refine ACall.start Tryd.func14 rfl rfl ?_
    (repeat (first | (with_reducible refine AWo.cons ?_) | ((with_reducible refine Step.id ?_); first | ((with_reducible apply Step.move); exact rfl; exact rfl) | ((with_reducible apply Step.assign); exact rfl; exact rfl) | ((with_reducible apply Step.callG fit (k := 0)); exact rfl; exact rfl; exact Tryd.func23; exact rfl; exact rfl; exact (O m hm0 _); (focus (first | (simp only [List.nil_append, List.cons_append, List.set_cons_zero, List.set_cons_succ, iv_set, bv_set, iv_rep, bv_rep]; done) | (simp only [List.nil_append, List.cons_append, List.set_cons_zero, List.set_cons_succ, iv_set, bv_set, iv_rep, bv_rep]; rfl) | rfl)))) | (with_reducible refine AWo.nil ?_) | ((with_reducible apply AW.seq)) | ((with_reducible apply Then.n)) | ((with_reducible apply AW.regL))))
    ((with_reducible apply Step.callX fit); exact rfl; exact Tryd.func34; exact rfl; exact rfl; exact (Plan_ok (hs.old _) (kds_at (l := K) rfl) hg))
    rintro _ M1 ⟨N1, hN1⟩ ⟨pw, rfl, hpw⟩
    have hm1 : ∃ N, M1 = m ++ N := ⟨_, by rw [hN1, List.append_assoc]⟩
    have np := Nds.of_pl hpw
    have hG := fun T => RGood_ok ((S0 M1 hm1).old T) ((K0 M1 hm1).old T)
    rw [hg] at hG
    clear hN1 hpw
    obtain ⟨A9, O9, sl9, la9, _⟩ := id np
    obtain ⟨q9, c9, rfl⟩ := sl9.shape
    have hlen2 : (planM B K).length ≤ 1000000 := by have := planM_le hg; omega
    have R1 := fun T => Read_ok (m := M1 ++ (gb (kvc K) 5 :: T)) (ps := planM B K) ((S0 M1 hm1).old _) (kds_at (k := 0) (l := K) rfl) (PN.of_nds (np.old _)) hlen2
    rw [rl] at R1
    simp only [rw1] at R1
    (repeat (first | (with_reducible refine AWo.cons ?_) | ((with_reducible refine Step.id ?_); first | ((with_reducible apply Step.move); exact rfl; exact rfl) | ((with_reducible apply Step.assign); exact rfl; exact rfl) | ((with_reducible apply Step.not); exact rfl; exact rfl) | ((with_reducible apply Step.extract); exact rfl; exact rfl; exact rfl) | ((with_reducible apply Step.callR fit); exact rfl; exact Tryd.func24; exact rfl; exact rfl; exact (hG _)) | ((with_reducible apply Step.callG fit (k := 0)); exact rfl; exact rfl; exact Tryd.func23; exact rfl; exact rfl; exact (O M1 hm1 _); (focus (first | (simp only [List.nil_append, List.cons_append, List.set_cons_zero, List.set_cons_succ, iv_set, bv_set, iv_rep, bv_rep]; done) | (simp only [List.nil_append, List.cons_append, List.set_cons_zero, List.set_cons_succ, iv_set, bv_set, iv_rep, bv_rep]; rfl) | rfl)))) | (with_reducible refine AWo.nil ?_) | ((with_reducible apply AW.seq)) | ((with_reducible apply Then.n)) | ((with_reducible apply AW.regL)) | ((with_reducible apply AW.skip)) | ((with_reducible apply AW.condF); exact rfl; (focus (rfl)))))
    ((with_reducible apply Step.callX fit); exact rfl; exact Tryd.func41; exact rfl; exact rfl; exact (R1 _))
    rintro _ M2 ⟨N2, hN2⟩ ⟨u, rfl, hpc⟩
    have hm2 : ∃ N, M2 = m ++ N := pre_up hm1 ⟨_, by rw [hN2, List.append_assoc]⟩
    have np2 : Nds M2 (.slice q9 (planM B K).length c9) (planM B K) := by rw [hN2]; exact (np.old _).old _
    clear hN2 R1 np
    (repeat (first | (with_reducible refine AWo.cons ?_) | ((with_reducible refine Step.id ?_); first | ((with_reducible apply Step.gdT); exact rfl; exact rfl; (focus (rfl))) | ((with_reducible apply Step.move); exact rfl; exact rfl) | ((with_reducible apply Step.assign); exact rfl; exact rfl) | ((with_reducible apply Step.neq); exact rfl; exact rfl; exact rfl) | ((with_reducible apply Step.extract); exact rfl; exact rfl; exact rfl) | ((with_reducible apply Step.pickF); exact rfl; exact rfl; exact rfl; exact rfl; (focus (rfl))) | ((with_reducible apply Step.callG fit (k := 0)); exact rfl; exact rfl; exact Tryd.func23; exact rfl; exact rfl; exact (O M2 hm2 _); (focus (first | (simp only [List.nil_append, List.cons_append, List.set_cons_zero, List.set_cons_succ, iv_set, bv_set, iv_rep, bv_rep]; done) | (simp only [List.nil_append, List.cons_append, List.set_cons_zero, List.set_cons_succ, iv_set, bv_set, iv_rep, bv_rep]; rfl) | rfl))) | ((with_reducible apply Step.callG fit (k := 1)); exact rfl; exact rfl; exact Tryd.func23; exact rfl; exact rfl; exact (O M2 hm2 _); (focus (first | (simp only [List.nil_append, List.cons_append, List.set_cons_zero, List.set_cons_succ, iv_set, bv_set, iv_rep, bv_rep]; done) | (simp only [List.nil_append, List.cons_append, List.set_cons_zero, List.set_cons_succ, iv_set, bv_set, iv_rep, bv_rep]; rfl) | rfl))) | ((with_reducible apply Step.callR fit); exact rfl; exact Tryd.func22; exact rfl; exact rfl; exact (Best_ok ((S0 M2 hm2).old _) (kds_at (l := K) rfl) hg))) | (with_reducible refine AWo.nil ?_) | ((with_reducible apply AW.seq)) | ((with_reducible apply Then.n)) | ((with_reducible apply AW.regL)) | ((with_reducible apply AW.skip)) | ((with_reducible apply AW.condF); exact rfl; (focus ((simp; done))))))
    have T1 := Rest_ok (m := M2 ++ [gb (kvc K) 5, gb (kvc K) 5]) (ps := planM B K) ((S0 M2 hm2).old _) (kds_at (k := 1) (l := K) rfl) (PN.of_nds (np2.old _)) hlen2
    rw [rl] at T1
    have hr0 : rstM B (l, 0) = punchT B l l.length := rfl
    simp only [hr0] at T1
    ((with_reducible apply Step.callX fit); exact rfl; exact Tryd.func49; exact rfl; exact rfl; exact T1)
    rintro _ M3 ⟨N3, hN3⟩ ⟨rs, rfl, hrs⟩
    have hm3 : ∃ N, M3 = m ++ N := pre_up hm2 ⟨_, by rw [hN3, List.append_assoc]⟩
    have hpc3 : Pcs M3 u l := by rw [hN3]; exact (hpc.old _).old _
    clear hN3 T1 hpc np2
    obtain ⟨pb1, pb2, pb3⟩ := punchT_board hgb l l.length
    have hV := fun T => RValid_ok (hrs.old T)
    rw [board_skin pb1] at hV
    have hl3 := (rdgM_all (B := B) (K := K) (ps := planM B K)).2.2
    have hl1 := (rdgM_all (B := B) (K := K) (ps := planM B K)).1
    rw [rl] at hl3 hl1
    simp only at hl3 hl1
    have hwT : worthL K (l.take l.length) = bestM B K := by rw [List.take_of_length_le (Nat.le_refl _)]; exact rw1
    have hrest := cnt_rest hg hl3 rpw
    generalize bestM B K = bm at *
    (repeat (first | (with_reducible refine AWo.cons ?_) | ((with_reducible refine Step.id ?_); first | ((with_reducible apply Step.gdT); exact rfl; exact rfl; (focus (rfl))) | ((with_reducible apply Step.move); exact rfl; exact rfl) | ((with_reducible apply Step.assign); exact rfl; exact rfl) | ((with_reducible apply Step.neq); exact rfl; exact rfl; exact rfl) | ((with_reducible apply Step.not); exact rfl; exact rfl) | ((with_reducible apply Step.extract); exact rfl; exact rfl; exact rfl) | ((with_reducible apply Step.pickF); exact rfl; exact rfl; exact rfl; exact rfl; (focus (rfl))) | ((with_reducible apply Step.callR fit); exact rfl; exact Tryd.func52; exact rfl; exact rfl; exact (hV _))) | (with_reducible refine AWo.nil ?_) | ((fail_if_success (with_reducible refine AW.atR (id := 11) ?_)); ((with_reducible apply AW.seq))) | ((with_reducible apply Then.n)) | ((with_reducible apply AW.regL)) | ((with_reducible apply AW.skip)) | ((with_reducible apply AW.condF); exact rfl; (focus (rfl)))))
    rw [List.append_nil]
    refine AW.rebase ?_
    have hS3 := S0 M3 hm3
    have hK3 := K0 M3 hm3
    have hC1 := fun T => RCount_ok (g := 1) (hrs.old T) pb1 (r := wholeR B) (by rw [pb2, pb3]; simp only [R4.ok, wholeR]; omega)
    have hC2 := fun T => RCount_ok (g := 1) (hS3.old T) hgb (r := wholeR B) (by simp only [R4.ok, wholeR]; omega)
    have hFi := fun T i (hi : i < l.length) => RFits_ok (hS3.old T) hgb (K.getD (l.getD i default).1 default) (r := (l.getD i default).2.1) (hl3 _ (by rw [getD_in _ _ hi]; exact List.getElem_mem hi)).2.1
    have hbl : (punchT B l l.length).length = B.length := pb3
    have hbz : (rowOf (punchT B l l.length) 0).size = (rowOf B 0).size := pb2
    have hcR := cnt_le (punchT B l l.length) 1 0 0 (bw B) (bh B)
    have hcB := cnt_le B 1 0 0 (bw B) (bh B)
    have hbig : bw B * bh B ≤ 256 := Nat.mul_le_mul hin.2.2.2 hin.2.1
    have hfin := hrest l.length (Nat.le_refl _)
    clear hrest
    obtain ⟨A1, O1, sl1, la1, rd1⟩ := id hS3
    obtain ⟨A2, O2, sl2, la2, rd2⟩ := id hK3
    obtain ⟨A4, O4, sl4, la4, rd4⟩ := id hrs
    obtain ⟨A5, O5, sl5, la5, rd5⟩ := id hpc3
    have r0 := rd1 0 hb0
    have r4 := rd4 0 (by omega)
    obtain ⟨q1, c1, rfl⟩ := sl1.shape
    obtain ⟨q2, c2, rfl⟩ := sl2.shape
    obtain ⟨q4, c4, rfl⟩ := sl4.shape
    obtain ⟨q5, c5, rfl⟩ := sl5.shape
    have w1 : Low M3.length (.slice q1 B.length c1) := Low.of_sl sl1 la1
    have w2 : Low M3.length (.slice q2 K.length c2) := Low.of_sl sl2 la2
    have w4 : Low M3.length (.slice q4 (punchT B l l.length).length c4) := Low.of_sl sl4 la4
    have w5 : Low M3.length (.slice q5 l.length c5) := Low.of_sl sl5 la5
    have em0 : ((B.length : Nat) : Int) * (((rowOf B 0).size : Nat) : Int) = ((bh B * bw B : Nat) : Int) := by
      show _ = ((B.length * (rowOf B 0).size : Nat) : Int)
      simp
    have hHW : bh B * bw B ≤ 256 := Nat.mul_le_mul hin.2.1 hin.2.2.2
    change ∀ T, ACall Tryd.prog 56 #[_, _, .agg #[.int .i64 0, .int .i64 0, .int .i64 ((rowOf B 0).size : Nat), .int .i64 (B.length : Nat)]] _ (Ret (.int .i64 ((cnt (punchT B l l.length) 1 0 0 (bw B) (bh B) : Nat) : Int)) _) at hC1
    change ∀ T, ACall Tryd.prog 56 #[_, _, .agg #[.int .i64 0, .int .i64 0, .int .i64 ((rowOf B 0).size : Nat), .int .i64 (B.length : Nat)]] _ (Ret (.int .i64 ((cnt B 1 0 0 (bw B) (bh B) : Nat) : Int)) _) at hC2
    (repeat (first | (with_reducible refine AWo.cons ?_) | ((with_reducible refine Step.id ?_); first | ((with_reducible apply Step.move); exact rfl; exact rfl) | ((with_reducible apply Step.assign); exact rfl; exact rfl) | ((with_reducible apply Step.load); exact rfl; (focus (decide +kernel)); exact rfl; (focus (exact Rd.old _ (by assumption)))) | ((with_reducible apply Step.ix1); exact rfl; (focus (assumption)); exact rfl; (focus (decide +kernel)); exact rfl; (focus (omega))) | ((with_reducible apply Step.lenS); exact rfl; exact un9; exact rfl) | ((with_reducible apply Step.mul); exact rfl; exact rfl; (focus (omega)); exact rfl) | ((with_reducible apply Step.len); exact rfl; (focus (assumption)); (focus (decide +kernel)); exact rfl) | ((with_reducible apply Step.make1 0); exact rfl; exact rfl; exact rfl; exact el91; (focus (omega)); exact rfl; (focus (first | (simp only [List.nil_append, List.cons_append, List.set_cons_zero, List.set_cons_succ, iv_set, bv_set, iv_rep, bv_rep]; done) | (simp only [List.nil_append, List.cons_append, List.set_cons_zero, List.set_cons_succ, iv_set, bv_set, iv_rep, bv_rep]; rfl) | rfl)))) | (with_reducible refine AWo.nil ?_) | ((with_reducible apply AW.seq)) | ((with_reducible apply Then.n)) | ((with_reducible apply AW.regL)) | ((with_reducible apply AW.block))))
    refine AW.loopT (fun n t L => ∃ i : Nat, n = l.length - i ∧ i ≤ l.length ∧ L = [some { cells := bv (metL (bw B) (bh B) l i default 0) }] ∧
      t = [(0, .slice q1 B.length c1), (1, .slice q2 K.length c2), (10, .int .i64 bm), (12, .slice q4 (punchT B l l.length).length c4), (13, .slice (some ⟨M3.length + 0, 0, none⟩) (bh B * bw B) (bh B * bw B)), (14, .int .i64 (worthL K (l.take i))), (15, .int .i64 (areaT l i : Nat)), (98, .slice q5 l.length c5), (99, .int .i64 (l.length : Nat)), (100, .int .i64 (i : Nat))])
      ⟨_, _, _, (Or.inl ⟨rfl, (by repeat (first | exact trivial | (refine And.intro rfl ?_)))⟩), 0, rfl, Nat.zero_le _, by rw [metL_zero]; rfl, rfl⟩ ?_
    rintro n t L ⟨i, rfl, hi, rfl, rfl⟩
    rcases Nat.lt_or_ge i l.length with hlt | hge
    · have hmem : l.getD i default ∈ l := by rw [getD_in _ _ hlt]; exact List.getElem_mem hlt
      obtain ⟨x1, x2, x3, x4⟩ := hl3 _ hmem
      have r5 := rd5 i hlt
      have rk := (rd2 _ x1)
      have hfi := fun T => hFi T i hlt
      have hRt := fun M => Rect_ok (m := M) (l.getD i default).2.1.rc
      have hLi := fun M => Lies_ok (m := M) (l.getD i default).2.1.rc (bw B : Nat) (bh B : Nat) (rcRight x2) (by have := hin.2.2.2; omega) (by have := hin.2.1; omega)
      rw [rcRight x2] at hRt
      rw [rcLies x2] at hLi
      rw [x3, x4] at hfi
      have hwk := worthL_take K l hlt
      have hKb : kindsB K = true := by simp only [goodB, Bool.and_eq_true] at hg; exact hg.2
      have hwi := worthL_in hKb (l.take i) (fun y hy => (hl3 y (List.mem_of_mem_take hy)).1)
      have htk : (l.take i).length ≤ l.length := by rw [List.length_take]; omega
      have hkd := kdB_in (kinds_get hKb x1)
      have hpwi : ∀ k, k < i → ∀ u v, ¬ (inR (l.getD k default).2.1 u v = true ∧ inR (l.getD i default).2.1 u v = true) := fun k hk => pw_at rpw hk hlt
      have hat := fun j hj => metL_at (w := bw B) (h := bh B) (j := j) (i := i) (l := l) x2 hj hpwi (by omega)
      have hst := fun j hj => metL_set (w := bw B) (h := bh B) (j := j) (i := i) (l := l) x2 hj
      have hce := fun j hj => cell_at (w := bw B) (h := bh B) (j := j) x2 hj
      have hful := metL_full (w := bw B) (h := bh B) hlt
      have hst0 := metL_start (bw B) (bh B) l i default (l.getD i default).2.1
      have har : areaT l (i + 1) = areaT l i + (l.getD i default).2.1.a * (l.getD i default).2.1.b := rfl
      have ham := areaT_mono l (k := i + 1) (l.length - (i + 1))
      rw [show i + 1 + (l.length - (i + 1)) = l.length by omega] at ham
      have hab : (l.getD i default).2.1.a * (l.getD i default).2.1.b ≤ 256 := by omega
      have hmlen := fun j => metL_len (bw B) (bh B) l i (l.getD i default).2.1 j
      rw [hst0]
      have n0 : ¬ (((l.getD i default).1 : Nat) : Int) < 0 := by omega
      have n1 : ¬ ((K.length : Nat) : Int) ≤ (((l.getD i default).1 : Nat) : Int) := by omega
      clear hFi hl3 rpw rd5 hpwi hmem
      generalize l.getD i default = y at *
      obtain ⟨yk, ⟨rx, ry, ra, rb⟩, yt⟩ := y
      simp only at x1 x2 hab hat hst hce hful har hkd hwk n0 n1 hmlen
      have rk3 := rk.at_ 3 rfl
      generalize K.getD yk default = kd at *
      change ∀ T, ACall Tryd.prog 55 #[_, .agg kd.cells.toArray, .agg #[.int .i64 (rx : Nat), .int .i64 (ry : Nat), .int .i64 (ra : Nat), .int .i64 (rb : Nat)]] _ _ at hfi
      change ∀ T, ACall Tryd.prog 53 #[.agg #[.int .i64 (rx : Nat), .int .i64 (ry : Nat), .int .i64 (ra : Nat), .int .i64 (rb : Nat)]] _ _ at hRt
      change ∀ T, ACall Tryd.prog 54 #[.agg #[.int .i64 (rx : Nat), .int .i64 (ry : Nat), .int .i64 (ra : Nat), .int .i64 (rb : Nat)], .int .i64 ((rowOf B 0).size : Nat), .int .i64 (B.length : Nat)] _ _ at hLi
      change RdL M3 A5 (O5 + i * 6) [.int .i64 (yk : Nat), .int .i64 (rx : Nat), .int .i64 (ry : Nat), .int .i64 (ra : Nat), .int .i64 (rb : Nat), .bool yt] at r5
      have hra : 1 ≤ ra ∧ 1 ≤ rb := ⟨x2.1, x2.2.1⟩
      have hrb : rx + ra ≤ bw B ∧ ry + rb ≤ bh B := ⟨x2.2.2.1, x2.2.2.2⟩
      have hbwr : bw B = (rowOf B 0).size := rfl
      have hbhr : bh B = B.length := rfl
      generalize worthL K (l.take i) = ws at *
      generalize areaT l i = ar at *
      have rq : ∀ T (c : List Value), RdL (M3 ++ (some { cells := c } :: some { cells := [.int .i64 (yk : Nat), .int .i64 (rx : Nat), .int .i64 (ry : Nat), .int .i64 (ra : Nat), .int .i64 (rb : Nat), .bool yt] } :: T)) (M3.length + 1) (0 + 1) [.int .i64 (rx : Nat), .int .i64 (ry : Nat), .int .i64 (ra : Nat), .int .i64 (rb : Nat)] := fun T c => ⟨_, by rw [get_app]; rfl, fun j v hj => by rcases j with _ | _ | _ | _ | j <;> first | exact hj | (simp at hj)⟩
      (repeat (first | (with_reducible refine AWo.cons ?_) | ((with_reducible refine Step.id ?_); first | ((with_reducible apply Step.gdT); exact rfl; exact rfl; (focus (first | rfl | (simp only [decide_eq_true_eq, decide_eq_false_iff_not, Bool.not_eq_true', Bool.not_eq_false', Bool.not_true, Bool.not_false]; first | assumption | omega)))) | ((with_reducible apply Step.move); exact rfl; exact rfl) | ((with_reducible apply Step.assign); exact rfl; exact rfl) | ((with_reducible apply Step.load); exact rfl; (focus (decide +kernel)); exact rfl; (focus (first | exact Rd.new rfl rfl | exact Rd.old _ (by assumption)))) | ((with_reducible apply Step.loadL (n := 4)); exact rfl; (focus (decide +kernel)); (focus (decide +kernel)); exact rfl; (focus (exact rq _ _)); exact rfl; exact rfl) | ((with_reducible apply Step.loadL (n := 5)); exact rfl; (focus (decide +kernel)); (focus (decide +kernel)); exact rfl; (focus (exact RdL.old _ (by assumption))); exact rfl; exact rfl) | ((with_reducible apply Step.loadL (n := 6)); exact rfl; (focus (decide +kernel)); (focus (decide +kernel)); exact rfl; (focus (exact RdL.old _ (by assumption))); exact rfl; exact rfl) | ((with_reducible apply Step.ix1); exact rfl; (focus (assumption)); exact rfl; (focus (decide +kernel)); exact rfl; (focus (omega))) | ((with_reducible apply Step.ix (s := 5)); exact rfl; (focus (assumption)); exact rfl; (focus (decide +kernel)); exact rfl; (focus (omega))) | ((with_reducible apply Step.ix (s := 6)); exact rfl; (focus (assumption)); exact rfl; (focus (decide +kernel)); exact rfl; (focus (omega))) | ((with_reducible apply Step.field0); exact rfl; (focus (decide +kernel)); exact rfl) | ((with_reducible apply Step.field (k := 1)); exact rfl; (focus (decide +kernel)); exact rfl) | ((with_reducible apply Step.field (k := 2)); exact rfl; (focus (decide +kernel)); exact rfl) | ((with_reducible apply Step.field (k := 3)); exact rfl; (focus (decide +kernel)); exact rfl) | ((with_reducible apply Step.field (k := 5)); exact rfl; (focus (decide +kernel)); exact rfl) | ((with_reducible apply Step.lenS); exact rfl; exact un9; exact rfl) | ((with_reducible apply Step.add); exact rfl; exact rfl; (focus (omega)); exact rfl) | ((with_reducible apply Step.mul); exact rfl; exact rfl; (focus (omega)); exact rfl) | ((with_reducible apply Step.lss); exact rfl; exact rfl; exact rfl) | ((with_reducible apply Step.geq); exact rfl; exact rfl; exact rfl) | ((with_reducible apply Step.neqB); exact rfl; exact rfl; exact un4; exact rfl) | ((with_reducible apply Step.len); exact rfl; (focus (assumption)); (focus (decide +kernel)); exact rfl) | ((with_reducible apply Step.not); exact rfl; exact rfl) | ((with_reducible apply Step.extract); exact rfl; exact rfl; exact rfl) | ((with_reducible apply Step.pickF); exact rfl; exact rfl; exact rfl; exact rfl; (focus (first | rfl | (simp only [decide_eq_true_eq, decide_eq_false_iff_not, Bool.not_eq_true', Bool.not_eq_false', Bool.not_true, Bool.not_false]; first | assumption | omega)))) | ((with_reducible apply Step.callR fit); exact rfl; exact Tryd.func53; exact rfl; exact rfl; exact (hRt _)) | ((with_reducible apply Step.callR fit); exact rfl; exact Tryd.func54; exact rfl; exact rfl; exact (hLi _)) | ((with_reducible apply Step.callR fit); exact rfl; exact Tryd.func55; exact rfl; exact rfl; exact (hfi _)) | ((with_reducible apply Step.alloc 1); exact rfl; exact ze81; exact rfl; (focus (first | (simp only [List.nil_append, List.cons_append, List.set_cons_zero, List.set_cons_succ, iv_set, bv_set, iv_rep, bv_rep]; done) | (simp only [List.nil_append, List.cons_append, List.set_cons_zero, List.set_cons_succ, iv_set, bv_set, iv_rep, bv_rep]; rfl) | rfl))) | ((with_reducible apply Step.storeA (k := 1) (n := 6)); exact rfl; exact rfl; exact rfl; exact rfl; (focus (decide +kernel)); exact rfl; (focus (kernel_rfl)); exact rfl; (focus (first | (simp only [List.nil_append, List.cons_append, List.set_cons_zero, List.set_cons_succ, iv_set, bv_set, iv_rep, bv_rep]; done) | (simp only [List.nil_append, List.cons_append, List.set_cons_zero, List.set_cons_succ, iv_set, bv_set, iv_rep, bv_rep]; rfl) | rfl)))) | (with_reducible refine AWo.nil ?_) | ((with_reducible apply AW.seq)) | ((with_reducible apply Then.n)) | ((with_reducible apply AW.regL)) | ((with_reducible apply AW.block)) | ((with_reducible apply AW.drawL fit); (focus (decide +kernel))) | ((with_reducible apply AW.skip)) | ((with_reducible apply AW.condT); exact rfl; (focus ((simp only [decide_eq_true_eq, decide_eq_false_iff_not, Bool.not_eq_true', Bool.not_eq_false', Bool.not_true, Bool.not_false]; first | assumption | omega)))) | ((with_reducible apply AW.condF); exact rfl; (focus (first | rfl | (simp; done))))))
      refine AW.loopT (fun n t L => ∃ j : Nat, n = ra * rb - j ∧ j ≤ ra * rb ∧ L = [some { cells := bv (metL (bw B) (bh B) l i ⟨rx, ry, ra, rb⟩ j) }, some { cells := [.int .i64 (yk : Nat), .int .i64 (rx : Nat), .int .i64 (ry : Nat), .int .i64 (ra : Nat), .int .i64 (rb : Nat), .bool yt] }] ∧
        t = [(0, .slice q1 B.length c1), (1, .slice q2 K.length c2), (10, .int .i64 bm), (12, .slice q4 (punchT B l l.length).length c4), (13, .slice (some ⟨M3.length + 0, 0, none⟩) (bh B * bw B) (bh B * bw B)), (14, .int .i64 (ws + kd.worth)), (15, .int .i64 ((ar + j : Nat))), (17, .pointer (some ⟨M3.length + 1, 0, none⟩)), (98, .slice q5 l.length c5), (99, .int .i64 (l.length : Nat)), (100, .int .i64 (i : Nat)), (166, .int .i64 ((ra * rb : Nat))), (167, .int .i64 (j : Nat))])
        ⟨_, _, _, (Or.inl ⟨rfl, (by repeat (first | exact trivial | (refine And.intro rfl ?_)))⟩), 0, rfl, Nat.zero_le _, rfl, rfl⟩ ?_
      rintro n t L ⟨j, rfl, hj, rfl, rfl⟩
      rcases Nat.lt_or_ge j (ra * rb) with hjl | hjg
      · obtain ⟨c1', c2', _, _, _, c6'⟩ := hce j hjl
        have ha := hat j hjl
        have hs2 := hst j hjl
        have hml := hmlen j
        have hq : ((j : Int) / (ra : Int)) = ((j / ra : Nat) : Int) ∧ True := ⟨rfl, trivial⟩
        have hsm : ((j : Int) % (ra : Int)) = ((j % ra : Nat) : Int) ∧ True := ⟨rfl, trivial⟩
        clear hce hat hst hmlen hful hst0 hfi hRt hLi hC1 hC2
        generalize metL (bw B) (bh B) l i ⟨rx, ry, ra, rb⟩ j = ct at *
        generalize j / ra = q at *
        generalize j % ra = s at *
        change (ry + q) * (rowOf B 0).size + rx + s < bh B * bw B at c6'
        change ct.getD ((ry + q) * (rowOf B 0).size + rx + s) false = false at ha
        change ct.set ((ry + q) * (rowOf B 0).size + rx + s) true = _ at hs2
        obtain ⟨P, hP⟩ : ∃ P, (ry + q) * (rowOf B 0).size = P := ⟨_, rfl⟩
        have em1 : ((ry : Int) + (q : Int)) * (((rowOf B 0).size : Nat) : Int) = ((P : Nat) : Int) := by
          rw [← hP]; simp
        generalize bh B * bw B = HW at *
        have hrabn : ra * rb ≤ 256 := hab
        (repeat (first | (with_reducible refine AWo.cons ?_) | ((with_reducible refine Step.id ?_); first | ((with_reducible apply Step.move); exact rfl; exact rfl) | ((with_reducible apply Step.assign); exact rfl; exact rfl) | ((with_reducible apply Step.load); exact rfl; (focus (decide +kernel)); exact rfl; (focus (first | exact Rd.new rfl rfl | exact Rd.old _ (by assumption)))) | ((with_reducible apply Step.ix1); exact rfl; (focus (assumption)); exact rfl; (focus (decide +kernel)); exact rfl; (focus (omega))) | ((with_reducible apply Step.field (k := 1)); exact rfl; (focus (decide +kernel)); exact rfl) | ((with_reducible apply Step.field (k := 2)); exact rfl; (focus (decide +kernel)); exact rfl) | ((with_reducible apply Step.lenS); exact rfl; exact un9; exact rfl) | ((with_reducible apply Step.add); exact rfl; exact rfl; (focus (omega)); exact rfl) | ((with_reducible apply Step.lss); exact rfl; exact rfl; exact rfl) | ((with_reducible apply Step.quo); exact rfl; exact rfl; (focus (omega)); (focus (omega)); exact rfl)) | (with_reducible refine AWo.nil ?_) | ((with_reducible apply AW.seq)) | ((with_reducible apply Then.n)) | ((with_reducible apply AW.regL)) | ((with_reducible apply AW.block)) | ((with_reducible apply AW.drawL fit); (focus (decide +kernel))) | ((with_reducible apply AW.skip)) | ((with_reducible apply AW.condT); exact rfl; (focus ((simp only [decide_eq_true_eq, decide_eq_false_iff_not, Bool.not_eq_true', Bool.not_eq_false', Bool.not_true, Bool.not_false]; first | assumption | omega))))))
        rw [hq.1]
        (repeat (first | (with_reducible refine AWo.cons ?_) | ((with_reducible refine Step.id ?_); first | ((with_reducible apply Step.move); exact rfl; exact rfl) | ((with_reducible apply Step.assign); exact rfl; exact rfl) | ((with_reducible apply Step.load); exact rfl; (focus (decide +kernel)); exact rfl; (focus (exact Rd.new rfl rfl))) | ((with_reducible apply Step.field0); exact rfl; (focus (decide +kernel)); exact rfl) | ((with_reducible apply Step.field (k := 1)); exact rfl; (focus (decide +kernel)); exact rfl) | ((with_reducible apply Step.field (k := 2)); exact rfl; (focus (decide +kernel)); exact rfl) | ((with_reducible apply Step.add); exact rfl; exact rfl; (focus (omega)); exact rfl) | ((with_reducible apply Step.mul); exact rfl; exact rfl; (focus (omega)); exact rfl) | ((with_reducible apply Step.rem); exact rfl; exact rfl; (focus (omega)); (focus (omega)); exact rfl)) | (with_reducible refine AWo.nil ?_) | ((with_reducible apply AW.seq)) | ((with_reducible apply Then.n)) | ((with_reducible apply AW.regL))))
        rw [hsm.1]
        (repeat (first | (with_reducible refine AWo.cons ?_) | ((with_reducible refine Step.id ?_); first | ((with_reducible apply Step.load); exact rfl; (focus (decide +kernel)); exact rfl; (focus (exact Rd.new rfl (bv_get (by first | omega | (simp; omega)))))) | ((with_reducible apply Step.ix1z); exact rfl; (focus (exact Sl.mk (by omega))); exact rfl; (focus (decide +kernel)); exact rfl; (focus (omega)))) | (with_reducible refine AWo.nil ?_) | ((with_reducible apply Then.n))))
        ((with_reducible apply AW.condF); exact rfl; exact ha)
        (repeat (first | (with_reducible refine AWo.cons ?_) | ((with_reducible refine Step.id ?_); first | ((with_reducible apply Step.move); exact rfl; exact rfl) | ((with_reducible apply Step.assign); exact rfl; exact rfl) | ((with_reducible apply Step.ix1z); exact rfl; (focus (exact Sl.mk (by omega))); exact rfl; (focus (decide +kernel)); exact rfl; (focus (omega))) | ((with_reducible apply Step.add); exact rfl; exact rfl; (focus (omega)); exact rfl) | ((with_reducible apply Step.store (k := 0)); exact rfl; exact rfl; exact rfl; exact rfl; (focus (decide +kernel)); exact rfl; exact rfl; (focus (first | omega | (simp [iv, bv]; done) | (simp [iv, bv]; omega))); (focus (first | (simp only [List.nil_append, List.cons_append, List.set_cons_zero, List.set_cons_succ, iv_set, bv_set, iv_rep, bv_rep]; done) | (simp only [List.nil_append, List.cons_append, List.set_cons_zero, List.set_cons_succ, iv_set, bv_set, iv_rep, bv_rep]; rfl) | rfl)))) | (with_reducible refine AWo.nil ?_) | ((with_reducible apply AW.seq)) | ((with_reducible apply Then.n)) | ((with_reducible apply AW.regL)) | ((with_reducible apply InBlk.n)) | ((with_reducible apply AW.skip))))
        exact ⟨_, [(0, .slice q1 B.length c1), (1, .slice q2 K.length c2), (10, .int .i64 bm), (12, .slice q4 (punchT B l l.length).length c4), (13, .slice (some ⟨M3.length + 0, 0, none⟩) HW HW), (14, .int .i64 (ws + kd.worth)), (15, .int .i64 ((ar + (j + 1) : Nat))), (17, .pointer (some ⟨M3.length + 1, 0, none⟩)), (98, .slice q5 l.length c5), (99, .int .i64 (l.length : Nat)), (100, .int .i64 (i : Nat)), (166, .int .i64 ((ra * rb : Nat))), (167, .int .i64 (j + 1 : Nat))], [some { cells := bv (ct.set ((ry + q) * (rowOf B 0).size + rx + s) true) }, some { cells := [.int .i64 (yk : Nat), .int .i64 (rx : Nat), .int .i64 (ry : Nat), .int .i64 (ra : Nat), .int .i64 (rb : Nat), .bool yt] }], by omega, (Or.inl ⟨rfl, (by repeat (first | exact trivial | (refine And.intro rfl ?_)))⟩), j + 1, rfl, by omega, by rw [hs2], rfl⟩
      · obtain rfl : j = ra * rb := by omega
        rw [hful]
        (repeat (first | (with_reducible refine AWo.cons ?_) | ((with_reducible refine Step.id ?_); first | ((with_reducible apply Step.move); exact rfl; exact rfl) | ((with_reducible apply Step.add); exact rfl; exact rfl; (focus (omega)); exact rfl) | ((with_reducible apply Step.lss); exact rfl; exact rfl; exact rfl)) | (with_reducible refine AWo.nil ?_) | ((with_reducible apply AW.seq)) | ((with_reducible apply Then.n)) | ((with_reducible apply AW.regL)) | ((with_reducible apply AW.exit)) | ((with_reducible apply InBlk.n)) | ((with_reducible apply InBlk.hit)) | ((with_reducible apply Then.e)) | ((with_reducible apply AW.condF); exact rfl; (focus ((simp only [decide_eq_true_eq, decide_eq_false_iff_not, Bool.not_eq_true', Bool.not_eq_false', Bool.not_true, Bool.not_false]; first | assumption | omega))))))
        exact ⟨_, [(0, .slice q1 B.length c1), (1, .slice q2 K.length c2), (10, .int .i64 bm), (12, .slice q4 (punchT B l l.length).length c4), (13, .slice (some ⟨M3.length + 0, 0, none⟩) (bh B * bw B) (bh B * bw B)), (14, .int .i64 (ws + kd.worth)), (15, .int .i64 ((ar + ra * rb : Nat))), (98, .slice q5 l.length c5), (99, .int .i64 (l.length : Nat)), (100, .int .i64 (i + 1 : Nat))], [some { cells := bv (metL (bw B) (bh B) l (i + 1) default 0) }], by omega, (Back.trim rfl rfl (by repeat (first | exact CellsOk.nil | refine CellsOk.cons (by exact g0_bv _) ?_)) (by repeat (first | exact trivial | (refine And.intro ⟨rfl, by (first | exact Low.rid (by assumption) (by simp) | exact .int _ _ | exact .slice _ _ _ _ (by first | (simp; done) | omega | (simp; omega)))⟩ ?_)))), i + 1, rfl, by omega, rfl, by rw [hwk, har]⟩
    · obtain rfl : i = l.length := by omega
      rw [hwT]
      generalize cnt (punchT B l l.length) 1 0 0 (bw B) (bh B) = cR at *
      generalize cnt B 1 0 0 (bw B) (bh B) = cB at *
      generalize areaT l l.length = ar at *
      generalize punchT B l l.length = PB at *
      have ecr : ((cR : Int) + (ar : Int)) = (cB : Int) := by omega
      (repeat (first | (with_reducible refine AWo.cons ?_) | ((with_reducible refine Step.id ?_); first | ((with_reducible apply Step.move); exact rfl; exact rfl) | ((with_reducible apply Step.load); exact rfl; (focus (decide +kernel)); exact rfl; (focus (exact Rd.old _ (by assumption)))) | ((with_reducible apply Step.ix1); exact rfl; (focus (assumption)); exact rfl; (focus (decide +kernel)); exact rfl; (focus (omega))) | ((with_reducible apply Step.lenS); exact rfl; exact un9; exact rfl) | ((with_reducible apply Step.lss); exact rfl; exact rfl; exact rfl) | ((with_reducible apply Step.len); exact rfl; (focus (assumption)); (focus (decide +kernel)); exact rfl) | ((with_reducible apply Step.alloc 1); exact rfl; exact ze23; exact rfl; (focus (first | (simp only [List.nil_append, List.cons_append, List.set_cons_zero, List.set_cons_succ, iv_set, bv_set, iv_rep, bv_rep]; done) | (simp only [List.nil_append, List.cons_append, List.set_cons_zero, List.set_cons_succ, iv_set, bv_set, iv_rep, bv_rep]; rfl) | rfl))) | ((with_reducible apply Step.storeA (k := 1) (n := 4)); exact rfl; exact rfl; exact rfl; exact rfl; (focus (decide +kernel)); exact rfl; (focus (kernel_rfl)); exact rfl; (focus (first | (simp only [List.nil_append, List.cons_append, List.set_cons_zero, List.set_cons_succ, iv_set, bv_set, iv_rep, bv_rep]; done) | (simp only [List.nil_append, List.cons_append, List.set_cons_zero, List.set_cons_succ, iv_set, bv_set, iv_rep, bv_rep]; rfl) | rfl))) | ((with_reducible apply Step.build); exact rfl; exact bl23w; exact rfl)) | (with_reducible refine AWo.nil ?_) | ((fail_if_success (with_reducible refine AW.atR (id := 33) ?_)); ((with_reducible apply AW.seq))) | ((with_reducible apply Then.n)) | ((with_reducible apply AW.regL)) | ((with_reducible apply AW.exit)) | ((with_reducible apply InBlk.hit)) | ((with_reducible apply Then.e)) | ((with_reducible apply AW.condF); exact rfl; (focus ((simp only [decide_eq_true_eq, decide_eq_false_iff_not, Bool.not_eq_true', Bool.not_eq_false', Bool.not_true, Bool.not_false]; first | assumption | omega))))))
      (repeat' (first | ((with_reducible refine Step.id ?_); first | ((with_reducible apply Step.gdT); exact rfl; exact rfl; (focus (first | (simp only [decide_eq_true_eq, decide_eq_false_iff_not, Bool.not_eq_true', Bool.not_eq_false', Bool.not_true, Bool.not_false]; first | assumption | omega) | (simp; done)))) | ((with_reducible apply Step.move); exact rfl; exact rfl) | ((with_reducible apply Step.assign); exact rfl; exact rfl) | ((with_reducible apply Step.load); exact rfl; (focus (decide +kernel)); exact rfl; (focus (exact Rd.old _ (by assumption)))) | ((with_reducible apply Step.loadL (n := 4)); exact rfl; (focus (decide +kernel)); (focus (decide +kernel)); exact rfl; (focus (exact RdL.new rfl rfl)); exact rfl; exact rfl) | ((with_reducible apply Step.ix1); exact rfl; (focus (assumption)); exact rfl; (focus (decide +kernel)); exact rfl; (focus (omega))) | ((with_reducible apply Step.ix1 (k := 0)); exact rfl; (focus (assumption)); exact rfl; (focus (decide +kernel)); exact rfl; (focus (omega))) | ((with_reducible apply Step.lenS); exact rfl; exact un9; exact rfl) | ((with_reducible apply Step.add); exact rfl; exact rfl; (focus (omega)); exact rfl) | ((with_reducible apply Step.eql); exact rfl; exact rfl; exact rfl) | ((with_reducible apply Step.len); exact rfl; (focus (assumption)); (focus (decide +kernel)); exact rfl) | ((with_reducible apply Step.pickT); exact rfl; exact rfl; exact rfl; exact rfl; (focus (first | (simp only [decide_eq_true_eq, decide_eq_false_iff_not, Bool.not_eq_true', Bool.not_eq_false', Bool.not_true, Bool.not_false]; first | assumption | omega) | (simp; done)))) | ((with_reducible apply Step.callR fit); exact rfl; exact Tryd.func56; exact rfl; exact rfl; exact (hC1 _)) | ((with_reducible apply Step.callR fit); exact rfl; exact Tryd.func56; exact rfl; exact rfl; exact (hC2 _)) | ((with_reducible apply Step.callR fit); exact rfl; exact Tryd.func21; exact rfl; exact rfl; exact (haw _))) | ((with_reducible apply AW.seq)) | ((with_reducible apply Then.n)) | ((with_reducible apply AW.drawT fit (T := (.step 0 (.step 1 (.step 2 (.step 3 (.step 4 (.step 5 (.step 6 (.step 7 (.step 8 (.step 9 (.step 10 (.step 11 (.step 12 (.step 13 (.step 14 (.step 15 (.step 16 (.step 17 (.step 18 (.step 19 (.step 20 (.step 21 (.step 22 (.step 23 (.step 25 (.step 27 (.both (.step 24 (.step 26 (.step 28 (.step 29 (.step 30 (.step 31 (.step 32 (.step 33 (.step 34 (.step 35 .done)))))))))) (.step 28 (.step 24 (.step 26 (.step 29 (.step 30 (.step 31 (.step 32 (.step 33 (.step 34 (.step 35 .done))))))))))))))))))))))))))))))))))))))); (focus (decide +kernel))) | ((with_reducible apply AWt.step); exact rfl) | ((with_reducible apply AWt.done)) | refine AWt.both ?_ ?_))
      all_goals (refine AW.ret ?_; (repeat (first | refine Then.r ?_ | refine InBlk.r ?_)))
      all_goals
        obtain ⟨N, hN⟩ := hm3
        exact ⟨_, rfl, rfl, _, by rw [hN, List.append_assoc]⟩
end Go.Proofs.YtibhgdglbillaaaDoor.Abs
