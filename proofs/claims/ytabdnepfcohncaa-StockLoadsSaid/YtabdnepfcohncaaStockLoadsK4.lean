/- Proved here: what the proof of StockLoads rests on, part 4 of 4. Conditions: those that each theorem names. -/
import Derived.Test.YtabdnepfcohncaaStockLoadsK3
namespace Go.Proofs.Ytabdnepfcohncaa.Abs
set_option linter.unusedSimpArgs false
set_option linter.unusedVariables false
open Go.RowKit
open Go.Proofs.Ytabdnepfcohncaa.Sim
open Go.Proofs
def trB (x : Tr) : List UInt8 := UInt8.ofNat (x.i.toNat * 16 + x.f.toNat) :: UInt8.ofNat x.t.toNat :: be x.n.toNat 4
def postBy (l : List Tr) : List UInt8 := UInt8.ofNat l.length :: l.flatMap trB
def saveB (P : List (List Tr)) : List UInt8 := P.flatMap postBy
theorem trB_len (x : Tr) : (trB x).length = 6 := by simp [trB, be_len]
theorem trBs_len (l : List Tr) : (l.flatMap trB).length = 6 * l.length := by
  induction l with
  | nil => rfl
  | cons x l ih => rw [List.flatMap_cons, List.length_append, trB_len, ih, List.length_cons]; omega
theorem postBy_len (l : List Tr) : (postBy l).length = 6 * l.length + 1 := by
  show (UInt8.ofNat l.length :: l.flatMap trB).length = _
  rw [List.length_cons, trBs_len]
theorem saveB_len : ∀ {P : List (List Tr)}, (∀ l ∈ P, postB l = true) → (saveB P).length ≤ 97 * P.length
  | [], _ => by simp [saveB]
  | l :: P, h => by
    have := saveB_len (P := P) fun q hq => h q (by simp [hq])
    have := postB_all (h l (by simp))
    show (postBy l ++ saveB P).length ≤ _
    rw [List.length_append, postBy_len, List.length_cons]
    omega
theorem saveB_snoc (P : List (List Tr)) (l : List Tr) : saveB (P ++ [l]) = saveB P ++ postBy l := by simp [saveB]
theorem Row.byts {M : AM} {b0 : Nat} {u : Value} {l : List UInt8} (h : Row M b0 1 u (by8 l) l.length) (hM : 0 < M.length) : Byts M u l := by
  obtain ⟨a, h1, h2, h3⟩ := h.sl hM
  refine ⟨a, 0, h1, h2, fun k hk => ?_⟩
  obtain ⟨b, q1, q2⟩ := h3 (by omega)
  refine ⟨b, q1, q2 k _ ?_⟩
  rw [by8_get hk, List.getD_eq_getElem?_getD, List.getElem?_eq_getElem hk]
  rfl
/-- One more piece written behind a row of bytes. -/
theorem Row.app8 {M : AM} {b0 : Nat} {r : Value} {a b : List UInt8} (h : Row M b0 1 r (by8 a ++ by8 b) (a.length + b.length)) : Row M b0 1 r (by8 (a ++ b)) (a ++ b).length := by
  rw [by8_app, List.length_append]; exact h
set_option maxHeartbeats 8000000 in
set_option maxRecDepth 100000 in
theorem Save_ok {m : AM} {b0 bk : Nat} {B : Bk} {pv : Value} (h : BookAt m b0 bk B pv) (hok : ∀ l ∈ B.P, postB l = true) (hpl : B.P.length ≤ 1000000) :
    ACall Try.prog 36 #[.pointer (some ⟨bk, 0, none⟩)] m (More (fun M r => Byts M r (saveB B.P)) m) := by
  have hnone := fun T => none_ok (m := m ++ T) (bk := bk) (Rd.old T ⟨_, h.cells, bkc_0⟩)
  have hbl := h.lt
  have rp := fun T => Rd.old T (show Rd m bk 513 pv from ⟨_, h.cells, bkc_P h.lH h.lC⟩)
  obtain ⟨pc, hrow, hps⟩ := h.row
  obtain ⟨ar, r1, r2, r3⟩ := hrow.sl (by omega)
  refine ACall.start Try.func36 rfl rfl ?_
  (repeat (first | (with_reducible refine AWo.cons ?_) | ((with_reducible refine Step.id ?_); first | ((with_reducible apply Step.move); exact rfl; exact rfl) | ((with_reducible apply Step.assign); exact rfl; exact rfl) | ((with_reducible apply Step.load); exact rfl; (focus (decide +kernel)); exact rfl; (focus (exact rp _))) | ((with_reducible apply Step.field (k := 513)); exact rfl; (focus (decide +kernel)); exact rfl) | ((with_reducible apply Step.len); exact rfl; (focus (assumption)); (focus (decide +kernel)); exact rfl) | ((with_reducible apply Step.nilp); exact rfl; exact rfl) | ((with_reducible apply Step.callR fit); exact rfl; exact Try.func83; exact rfl; exact rfl; exact (hnone _))) | (with_reducible refine AWo.nil ?_) | ((with_reducible apply AW.seq)) | ((with_reducible apply Then.n)) | ((with_reducible apply AW.regL)) | ((with_reducible apply AW.block)) | ((with_reducible apply AW.skip)) | ((with_reducible apply AW.condF); exact rfl; (focus (rfl)))))
  refine AW.loopW (fun q t M => ∃ (k : Nat) (r : Value), q = B.P.length - k ∧ k ≤ B.P.length ∧ Row M m.length 1 r (by8 (saveB (B.P.take k))) (saveB (B.P.take k)).length ∧ (∃ N, M = m ++ N) ∧
    t = fr [(3, r), (13, pv), (14, .int .i64 (B.P.length : Nat)), (15, .int .i64 (k : Nat))]) ⟨_, _, (by repeat (first | exact trivial | (refine And.intro rfl ?_))), 0, _, rfl, Nat.zero_le _, Row.nil, ⟨_, rfl⟩, rfl⟩ ?_
  rintro q t M ⟨k, r, rfl, hk, hR, ⟨N, rfl⟩, rfl⟩
  rcases Nat.lt_or_ge k B.P.length with hlt | hge
  · obtain ⟨u, q1, q2⟩ := hps k hlt
    have rk : ∀ T, Rd (m ++ T) ar (0 + k) u := fun T => Rd.old T (by
      obtain ⟨b, w1, w2⟩ := r3 (by omega)
      exact ⟨b, w1, w2 k u q1⟩)
    simp only [Nat.zero_add] at rk
    have hmem : B.P.getD k [] ∈ B.P := by rw [List.getD_eq_getElem?_getD, List.getElem?_eq_getElem hlt]; exact List.getElem_mem hlt
    obtain ⟨p1, p2, p3⟩ := postB_all (hok _ hmem)
    have hsl := saveB_len (P := B.P.take k) fun q hq => hok q (List.mem_of_mem_take hq)
    rw [List.length_take, Nat.min_eq_left hk] at hsl
    have hsn : saveB (B.P.take (k + 1)) = saveB (B.P.take k) ++ postBy (B.P.getD k []) := by
      rw [List.take_succ_eq_append_getElem hlt, saveB_snoc]; simp [hlt]
    have q3 := fun T => (q2.trs).old T
    generalize B.P.getD k [] = l at *
    generalize saveB (B.P.take k) = S at *
    obtain ⟨a3, o3, s1, s2, s3⟩ := q2.trs
    have s3' := fun T j (hj : j < l.length) => (s3 j hj).old T
    have rk1 := fun T => rk (N ++ T)
    simp only [← List.append_assoc] at rk1
    refine AW.rebase ?_
    (repeat (first | (with_reducible refine AWo.cons ?_) | ((with_reducible refine Step.id ?_); first | ((with_reducible apply Step.move); exact rfl; exact rfl) | ((with_reducible apply Step.assign); exact rfl; exact rfl) | ((with_reducible apply Step.load); exact rfl; (focus (decide +kernel)); exact rfl; (focus (exact rk1 _))) | ((with_reducible apply Step.ix1z); exact rfl; (focus (assumption)); exact rfl; (focus (decide +kernel)); exact rfl; (focus (omega))) | ((with_reducible apply Step.lss); exact rfl; exact rfl; exact rfl) | ((with_reducible apply Step.len); exact rfl; (focus (assumption)); (focus (decide +kernel)); exact rfl)) | (with_reducible refine AWo.nil ?_) | ((with_reducible apply AW.seq)) | ((with_reducible apply Then.n)) | ((with_reducible apply AW.regL)) | ((with_reducible apply AW.block)) | ((with_reducible apply AW.skip)) | ((with_reducible apply AW.condT); exact rfl; (focus ((simp only [decide_eq_true_eq, decide_eq_false_iff_not, Bool.not_eq_true', Bool.not_eq_false', Bool.not_true, Bool.not_false]; first | assumption | omega))))))
    ((with_reducible apply Step.toB); exact rfl; exact un3; exact un5; exact rfl)
    (repeat (first | (with_reducible refine AWo.cons ?_) | ((with_reducible refine Step.id ?_); ((with_reducible apply Step.buildS 0); exact rfl; exact rfl; exact (fun _ _ => bs22); exact rfl; (focus (first | (simp only [List.nil_append, List.cons_append, List.set_cons_zero, List.set_cons_succ, iv_set, bv_set, iv_rep, bv_rep]; done) | (simp only [List.nil_append, List.cons_append, List.set_cons_zero, List.set_cons_succ, iv_set, bv_set, iv_rep, bv_rep]; rfl) | rfl))))))
    ((with_reducible apply Step.appRow2 (n := S.length) (xl := 1) (b0 := m.length) (new := by8 [UInt8.ofNat l.length])); exact rfl; exact rfl; exact (hR.old _); exact (Sl.mk (Nat.le_refl _)); exact (fun _ => RdL.new rfl rfl); exact el22; exact un22; exact rfl; exact rfl; exact rfl; (focus (omega)); exact rfl; (focus (simp only [List.length_append]; omega)))
    intro r1' M1 hr1 hml1 hk1 _
    have hM1 := pre_keep (m0 := m) ⟨N ++ _, (List.append_assoc _ _ _)⟩ hml1 fun j hj => hk1 j (by simp only [List.length_append]; omega) (NotOf.row hR hj)
    have hr1 := Row.app8 (b := [UInt8.ofNat l.length]) hr1
    clear hk1
    (repeat (first | (with_reducible refine AWo.cons ?_) | ((with_reducible refine Step.id ?_); first | ((with_reducible apply Step.move); exact rfl; exact rfl) | ((with_reducible apply Step.assign); exact rfl; exact rfl) | ((with_reducible apply Step.len); exact rfl; (focus (assumption)); (focus (decide +kernel)); exact rfl)) | (with_reducible refine AWo.nil ?_) | ((with_reducible apply AW.seq)) | ((with_reducible apply Then.n)) | ((with_reducible apply AW.regL)) | ((with_reducible apply AW.block))))
    refine AW.loopW (fun q t M => ∃ (j : Nat) (r : Value), q = l.length - j ∧ j ≤ l.length ∧ Row M m.length 1 r (by8 (S ++ UInt8.ofNat l.length :: (l.take j).flatMap trB)) (S ++ UInt8.ofNat l.length :: (l.take j).flatMap trB).length ∧ (∃ N, M = m ++ N) ∧
      t = fr [(3, r), (13, pv), (14, .int .i64 (B.P.length : Nat)), (15, .int .i64 (k : Nat)), (25, u), (26, .int .i64 (l.length : Nat)), (27, .int .i64 (j : Nat))]) ⟨_, _, (by repeat (first | exact trivial | (refine And.intro rfl ?_))), 0, _, rfl, Nat.zero_le _, hr1, hM1, rfl⟩ ?_
    clear hM1 hr1 hml1
    rintro q t M2 ⟨j, r', rfl, hj, hR2, ⟨N2, rfl⟩, rfl⟩
    rcases Nat.lt_or_ge j l.length with hlt' | hge'
    · have hr := fun T => s3' (N2 ++ T) j hlt'
      simp only [← List.append_assoc] at hr
      have ts := take_snocT l j hlt'
      have hmem' : l.getD j default ∈ l := by rw [List.getD_eq_getElem?_getD, List.getElem?_eq_getElem hlt']; exact List.getElem_mem hlt'
      have hx := List.all_eq_true.1 p3 _ hmem'
      have hlen2 : (S ++ UInt8.ofNat l.length :: (l.take j).flatMap trB).length ≤ 500000000 := by
        rw [List.length_append, List.length_cons, trBs_len, List.length_take]; omega
      have hnx : S ++ UInt8.ofNat l.length :: (l.take (j + 1)).flatMap trB = (S ++ UInt8.ofNat l.length :: (l.take j).flatMap trB) ++ trB (l.getD j default) := by
        rw [ts, List.flatMap_append]; simp
      generalize l.getD j default = x at *
      generalize S ++ UInt8.ofNat l.length :: (l.take j).flatMap trB = S2 at *
      obtain ⟨xi, xf, xt, xn⟩ := x
      simp only [Tr.c] at hr
      simp only [okT, decide_eq_true_eq] at hx
      obtain ⟨x1, x2, x3, x4, x5, x6, x7, x8, x9⟩ := hx
      obtain ⟨i, rfl⟩ := Int.eq_ofNat_of_zero_le x1
      obtain ⟨f, rfl⟩ := Int.eq_ofNat_of_zero_le x3
      obtain ⟨t, rfl⟩ := Int.eq_ofNat_of_zero_le x5
      obtain ⟨n, rfl⟩ := Int.eq_ofNat_of_zero_le (show 0 ≤ xn by omega)
      have w1 : ((i : Nat) : Int) * 16 = ((i * 16 : Nat) : Int) := by omega
      have w2 : ((i * 16 : Nat) : Int) + ((f : Nat) : Int) = ((i * 16 + f : Nat) : Int) := by omega
      have etr : trB ⟨i, f, t, n⟩ = [UInt8.ofNat (i * 16 + f), UInt8.ofNat t] ++ be n 4 := by simp [trB]
      rw [etr, ← List.append_assoc] at hnx
      refine AW.rebase ?_
      (repeat (first | (with_reducible refine AWo.cons ?_) | ((with_reducible refine Step.id ?_); first | ((with_reducible apply Step.move); exact rfl; exact rfl) | ((with_reducible apply Step.load); exact rfl; (focus (decide +kernel)); exact rfl; (focus (exact Rd.new rfl rfl))) | ((with_reducible apply Step.loadL (n := 4)); exact rfl; (focus (decide +kernel)); (focus (decide +kernel)); exact rfl; (focus (exact hr _)); exact rfl; exact rfl) | ((with_reducible apply Step.ix (s := 4)); exact rfl; (focus (assumption)); exact rfl; (focus (decide +kernel)); exact rfl; (focus (omega))) | ((with_reducible apply Step.field0); exact rfl; (focus (decide +kernel)); exact rfl) | ((with_reducible apply Step.field (k := 1)); exact rfl; (focus (decide +kernel)); exact rfl) | ((with_reducible apply Step.addE); exact rfl; exact rfl; (focus (assumption)); (focus (omega)); exact rfl) | ((with_reducible apply Step.mulE); exact rfl; exact rfl; (focus (assumption)); (focus (omega)); exact rfl) | ((with_reducible apply Step.lss); exact rfl; exact rfl; exact rfl) | ((with_reducible apply Step.alloc 0); exact rfl; exact ze63; exact rfl; (focus (first | (simp only [List.nil_append, List.cons_append, List.set_cons_zero, List.set_cons_succ, iv_set, bv_set, iv_rep, bv_rep]; done) | (simp only [List.nil_append, List.cons_append, List.set_cons_zero, List.set_cons_succ, iv_set, bv_set, iv_rep, bv_rep]; rfl) | rfl))) | ((with_reducible apply Step.storeA (k := 0) (n := 4)); exact rfl; exact rfl; exact rfl; exact rfl; (focus (decide +kernel)); exact rfl; (focus (kernel_rfl)); exact rfl; (focus (first | (simp only [List.nil_append, List.cons_append, List.set_cons_zero, List.set_cons_succ, iv_set, bv_set, iv_rep, bv_rep]; done) | (simp only [List.nil_append, List.cons_append, List.set_cons_zero, List.set_cons_succ, iv_set, bv_set, iv_rep, bv_rep]; rfl) | rfl)))) | (with_reducible refine AWo.nil ?_) | ((with_reducible apply AW.seq)) | ((with_reducible apply Then.n)) | ((with_reducible apply AW.regL)) | ((with_reducible apply AW.block)) | ((with_reducible apply AW.skip)) | ((with_reducible apply AW.condT); exact rfl; (focus ((simp only [decide_eq_true_eq, decide_eq_false_iff_not, Bool.not_eq_true', Bool.not_eq_false', Bool.not_true, Bool.not_false]; first | assumption | omega))))))
      ((with_reducible apply Step.toB); exact rfl; exact un3; exact un5; exact rfl)
      (repeat (first | (with_reducible refine AWo.cons ?_) | ((with_reducible refine Step.id ?_); first | ((with_reducible apply Step.load); exact rfl; (focus (decide +kernel)); exact rfl; (focus (exact Rd.new rfl rfl))) | ((with_reducible apply Step.field (k := 2)); exact rfl; (focus (decide +kernel)); exact rfl))))
      ((with_reducible apply Step.toB); exact rfl; exact un3; exact un5; exact rfl)
      (repeat (first | (with_reducible refine AWo.cons ?_) | ((with_reducible refine Step.id ?_); ((with_reducible apply Step.buildS 1); exact rfl; exact rfl; exact (fun _ _ => bs22b); exact rfl; (focus (first | (simp only [List.nil_append, List.cons_append, List.set_cons_zero, List.set_cons_succ, iv_set, bv_set, iv_rep, bv_rep]; done) | (simp only [List.nil_append, List.cons_append, List.set_cons_zero, List.set_cons_succ, iv_set, bv_set, iv_rep, bv_rep]; rfl) | rfl))))))
      ((with_reducible apply Step.appRow2 (n := S2.length) (xl := 2) (b0 := m.length) (new := by8 [UInt8.ofNat (i * 16 + f), UInt8.ofNat t])); exact rfl; exact rfl; exact (hR2.old _); exact (Sl.mk (Nat.le_refl _)); exact (fun _ => RdL.new rfl rfl); exact el22; exact un22; exact rfl; exact rfl; exact rfl; (focus (omega)); exact rfl; (focus (simp only [List.length_append]; omega)))
      intro r3' M3 hr3 hml3 hk3 _
      have hM3 := pre_keep (m0 := m) ⟨N2 ++ _, (List.append_assoc _ _ _)⟩ hml3 fun j hj => hk3 j (by simp only [List.length_append]; omega) (NotOf.row hR2 hj)
      have hr3 := Row.app8 (b := [UInt8.ofNat (i * 16 + f), UInt8.ofNat t]) hr3
      have rn : ∀ T, Rd (M3 ++ T) ((m ++ N2).length + 0) 3 (.int .i64 (n : Nat)) := fun T => Rd.old T (by
        refine ⟨{ cells := [.int .i64 i, .int .i64 f, .int .i64 t, .int .i64 n] }, ?_, rfl⟩
        rw [hk3 _ (by simp only [List.length_append]; simp) (hR2.far (by omega))]
        rw [get_app]; rfl)
      clear hk3
      obtain ⟨N3, hN3⟩ := hM3
      have hput := put_ok (n := n) (s := 4) hr3 (by rw [hN3, List.length_append]; omega) (by rw [List.length_append]; simp; omega) (by omega) (by omega)
      rw [← List.append_nil M3]
      (repeat (first | (with_reducible refine AWo.cons ?_) | ((with_reducible refine Step.id ?_); first | ((with_reducible apply Step.move); exact rfl; exact rfl) | ((with_reducible apply Step.assign); exact rfl; exact rfl) | ((with_reducible apply Step.load); exact rfl; (focus (decide +kernel)); exact rfl; (focus (exact rn _))) | ((with_reducible apply Step.field (k := 3)); exact rfl; (focus (decide +kernel)); exact rfl)) | (with_reducible refine AWo.nil ?_) | ((with_reducible apply Then.n)) | ((with_reducible apply AW.regL))))
      ((with_reducible apply Step.callF fit); exact rfl; exact Try.func96; exact rfl; exact rfl; (focus (rw [List.append_nil]; exact hput)))
      rintro r4 M4 ⟨hr4, hadd⟩
      have hM4 := pre_keep (m0 := m) ⟨N3, hN3⟩ hadd.1 fun j hj => hadd.2.1 j (by rw [hN3, List.length_append]; omega) (NotOf.row hr3 hj)
      rw [← List.append_nil M4]
      (repeat (first | (with_reducible refine AWo.cons ?_) | ((with_reducible refine Step.id ?_); first | ((with_reducible apply Step.move); exact rfl; exact rfl) | ((with_reducible apply Step.assign); exact rfl; exact rfl) | ((with_reducible apply Step.add); exact rfl; exact rfl; (focus (omega)); exact rfl)) | (with_reducible refine AWo.nil ?_) | ((with_reducible apply Then.n)) | ((with_reducible apply AW.regL)) | ((with_reducible apply InBlk.n))))
      exact ⟨_, [(3, r4), (13, pv), (14, .int .i64 (B.P.length : Nat)), (15, .int .i64 (k : Nat)), (25, u), (26, .int .i64 (l.length : Nat)), (27, .int .i64 (j + 1 : Nat))], by omega, (by repeat (first | exact trivial | (refine And.intro rfl ?_))), j + 1, _, rfl, by omega, by rw [hnx, List.append_nil]; exact hr4, by rw [List.append_nil]; exact hM4, rfl⟩
    · obtain rfl : j = l.length := by omega
      rw [List.take_length] at hR2
      refine AW.rebase ?_
      (repeat (first | (with_reducible refine AWo.cons ?_) | ((with_reducible refine Step.id ?_); first | ((with_reducible apply Step.move); exact rfl; exact rfl) | ((with_reducible apply Step.add); exact rfl; exact rfl; (focus (omega)); exact rfl) | ((with_reducible apply Step.lss); exact rfl; exact rfl; exact rfl)) | (with_reducible refine AWo.nil ?_) | ((with_reducible apply AW.seq)) | ((with_reducible apply Then.n)) | ((with_reducible apply AW.regL)) | ((with_reducible apply AW.exit)) | ((with_reducible apply InBlk.n)) | ((with_reducible apply InBlk.hit)) | ((with_reducible apply Then.e)) | ((with_reducible apply AW.condF); exact rfl; (focus ((simp only [decide_eq_true_eq, decide_eq_false_iff_not, Bool.not_eq_true', Bool.not_eq_false', Bool.not_true, Bool.not_false]; first | assumption | omega))))))
      exact ⟨_, [(3, r'), (13, pv), (14, .int .i64 (B.P.length : Nat)), (15, .int .i64 (k + 1 : Nat))], by omega, (by repeat (first | exact trivial | (refine And.intro rfl ?_))), k + 1, _, rfl, by omega, by rw [hsn, List.append_nil]; exact hR2, ⟨N2, by rw [List.append_nil]⟩, rfl⟩
  · obtain rfl : k = B.P.length := by omega
    rw [List.take_length] at hR
    refine AW.rebase ?_
    (repeat (first | (with_reducible refine AWo.cons ?_) | ((with_reducible refine Step.id ?_); first | ((with_reducible apply Step.move); exact rfl; exact rfl) | ((with_reducible apply Step.assign); exact rfl; exact rfl) | ((with_reducible apply Step.lss); exact rfl; exact rfl; exact rfl)) | (with_reducible refine AWo.nil ?_) | ((with_reducible apply AW.seq)) | ((with_reducible apply Then.n)) | ((with_reducible apply AW.regL)) | ((with_reducible apply AW.exit)) | ((with_reducible apply InBlk.hit)) | ((with_reducible apply Then.e)) | ((with_reducible apply AW.condF); exact rfl; (focus ((simp only [decide_eq_true_eq, decide_eq_false_iff_not, Bool.not_eq_true', Bool.not_eq_false', Bool.not_true, Bool.not_false]; first | assumption | omega))))))
    (refine AW.ret ?_; (repeat (first | refine Then.r ?_ | refine InBlk.r ?_)))
    exact ⟨_, rfl, N, by rw [List.append_nil], by rw [List.append_nil]; exact hR.byts (by rw [List.length_append]; omega)⟩
end Go.Proofs.Ytabdnepfcohncaa.Abs
namespace Go.Proofs.Ytabdnepfcohncaa.Abs
set_option linter.unusedSimpArgs false
set_option linter.unusedVariables false
open Go.RowKit Go.Shelf
open Go.Proofs.Ytabdnepfcohncaa.Sim
open Go.Proofs
def chunkX (n : Nat) : List {q : Nat // q < n} := List.ofFn fun i : Fin n => ⟨i.val, i.isLt⟩
theorem chunkX_len (n : Nat) : (chunkX n).length = n := by simp [chunkX]
theorem chunkX_take {n k : Nat} (h : k < n) : (chunkX n).take (k + 1) = (chunkX n).take k ++ [⟨k, h⟩] := by
  rw [List.take_succ_eq_append_getElem (by rw [chunkX_len]; exact h)]
  congr 2
  simp [chunkX]
set_option maxRecDepth 100000 in
set_option maxHeartbeats 2000000 in
theorem chunk1_in (l Bs bo Bi io b off n cap : Nat) (hcap : 6 * n ≤ cap) (hn : n ≤ 1000000) (Kp : World → World → Prop) (J Jx : List {q : Nat // q < n} → World → Prop)
    (hY : ∀ pre (x : {q : Nat // q < n}) W, J pre W → pre.length < n → YieldAt Fence.wide 0 Try.prog l #[.slice (some ⟨b, off + 6 * x.val, none⟩) 6 6] W fun e W' =>
      (e = .returned (.bool true) ∧ J (pre ++ [x]) W' ∧ Kp W W') ∨ (e = .returned (.bool false) ∧ Jx (pre ++ [x]) W'))
    (hJd : ∀ pre W, J pre W → J pre W.drew)
    (hK : ∀ A B, Kp A B → (A.cell? ⟨Bs, bo, none⟩ = some (.slice (some ⟨b, off, none⟩) (6 * n) cap) ∧ A.cell? ⟨Bi, io, none⟩ = some (.int .i64 6)) → (B.cell? ⟨Bs, bo, none⟩ = some (.slice (some ⟨b, off, none⟩) (6 * n) cap) ∧ B.cell? ⟨Bi, io, none⟩ = some (.int .i64 6)))
    (W : World) (hc : W.cell? ⟨Bs, bo, none⟩ = some (.slice (some ⟨b, off, none⟩) (6 * n) cap) ∧ W.cell? ⟨Bi, io, none⟩ = some (.int .i64 6)) (h0 : J [] W) :
    CallsIn Fence.wide 1 Try.prog 127 #[.func (.yield l) #[] #[], .pointer (some ⟨Bs, bo, none⟩), .pointer (some ⟨Bi, io, none⟩)] W fun e W' => (∃ v, e = .returned v) ∧
      ((∃ ys, ys = chunkX n ∧ J ys W') ∨ (∃ pre, True ∧ Jx pre W')) := by
  refine callsIn_of_wp Try.func127 rfl trivial ?_ rfl
  simp only [Try.ntmps127, List.size_toArray, List.length_cons, List.length_nil, Nat.reduceAdd, Nat.reduceSub, Array.replicate_succ, Array.replicate_zero, List.push_toArray, List.append_toArray, List.nil_append, List.cons_append]
  have hc1 := hc.1
  have hc2 := hc.2
  gi_wp2
  gi_loopw [4] (fun i wr => ∃ k : Nat, k ≤ n ∧ i = .int .i64 ((6 * k : Nat) : Int) ∧ J ((chunkX n).take k) wr ∧ (wr.cell? ⟨Bs, bo, none⟩ = some (.slice (some ⟨b, off, none⟩) (6 * n) cap) ∧ wr.cell? ⟨Bi, io, none⟩ = some (.int .i64 6)))
    (fun i _ => (6 * (n : Int) - intOf i).toNat)
  case atStart => exact ⟨0, Nat.zero_le _, by simp, by simpa using h0, hc⟩
  case round =>
    obtain ⟨k, hk, rfl, hJs, hcs⟩ := hrel
    by_cases hlt : k < n
    · have hcb := hcs.1
      have hcb2 := hcs.2
      have hl1 : ((6 * k : Nat) : Int) < ((6 * n : Nat) : Int) := by omega
      gi_wp2
      gi_region
      have hcs' : wr.drew.cell? ⟨Bs, bo, none⟩ = some (.slice (some ⟨b, off, none⟩) (6 * n) cap) ∧ wr.drew.cell? ⟨Bi, io, none⟩ = some (.int .i64 6) := hcs
      have hcb3 := hcs'.1
      have hcb4 := hcs'.2
      have hJd' := hJd _ _ hJs
      obtain ⟨fn, tmps, assign, body, hy, hR⟩ := hY _ ⟨k, hlt⟩ wr.drew hJd' (by rw [List.length_take, chunkX_len]; omega)
      generalize wr.drew = wr2 at *
      gi_wp2
      refine hR.mono ?_
      rintro e W3 (⟨rfl, hJ3, hk3⟩ | ⟨rfl, hJx3⟩)
      · have hcs3 := hK _ _ hk3 hcs'
        have hcb5 := hcs3.1
        have hcb6 := hcs3.2
        gi_wp2
        go_roundw
        case rel => exact ⟨k + 1, by omega, by first | (congr 1; done) | (congr 1; omega) | (congr 1; push_cast; omega), by rw [chunkX_take hlt]; exact hJ3, hcs3⟩
        case measure => first | (simp [intOf]; done) | (simp [intOf]; omega)
      · gi_wp2
        refine bodyPost_ret (results_none rfl _ _ _) rfl ?_
        exact ⟨⟨_, rfl⟩, .inr ⟨_, trivial, hJx3⟩⟩
    · obtain rfl : k = n := by omega
      have hcb := hcs.1
      have hcb2 := hcs.2
      have hl1 : ¬ ((6 * k : Nat) : Int) < ((6 * k : Nat) : Int) := by omega
      gi_wp2
      go_end0
      rw [List.take_of_length_le (by rw [chunkX_len]; exact Nat.le_refl _)] at hJs
      exact ⟨⟨_, rfl⟩, .inl hJs⟩
set_option maxRecDepth 100000 in
set_option maxHeartbeats 1000000 in
/-- .. of an empty slice: no round. -/
theorem chunk0_in (l Bs bo Bi io : Nat) (a : Option Addr) (cap : Nat) (J : List {q : Nat // q < 0} → World → Prop) (W : World) (hc : W.cell? ⟨Bs, bo, none⟩ = some (.slice a 0 cap)) (h0 : J [] W) :
    CallsIn Fence.wide 1 Try.prog 127 #[.func (.yield l) #[] #[], .pointer (some ⟨Bs, bo, none⟩), .pointer (some ⟨Bi, io, none⟩)] W fun e W' => (∃ v, e = .returned v) ∧ J [] W' := by
  refine callsIn_of_wp Try.func127 rfl trivial ?_ rfl
  simp only [Try.ntmps127, List.size_toArray, List.length_cons, List.length_nil, Nat.reduceAdd, Nat.reduceSub, Array.replicate_succ, Array.replicate_zero, List.push_toArray, List.append_toArray, List.nil_append, List.cons_append]
  gi_wp2
  gi_loopw [4] (fun i wr => i = .int .i64 0 ∧ J [] wr ∧ wr.cell? ⟨Bs, bo, none⟩ = some (.slice a 0 cap)) (fun _ _ => 0)
  case atStart => exact ⟨rfl, h0, hc⟩
  case round =>
    obtain ⟨rfl, hJs, hcs⟩ := hrel
    gi_wp2
    go_end0
    exact ⟨⟨_, rfl⟩, hJs⟩
end Go.Proofs.Ytabdnepfcohncaa.Abs
namespace Go.Proofs.Ytabdnepfcohncaa.Abs
set_option linter.unusedSimpArgs false
set_option linter.unusedVariables false
open Go.RowKit
open Go.Proofs.Ytabdnepfcohncaa.Sim
open Go.Proofs
section
variable {P : Program} {nt : Nat} {ops : Array Oper} {t : Fm} {m : AM} {K : Fm → AM → Prop} {d T : Nat} {p : String} {af : Array Edge}
/-- APPEND. -/
theorem Step.appRow3 {x y : Operand} {X Y e e' : TypeId} {by_ s a o n xl b0 : Nat} {z : Array Value} {c new : List Value} {u yv : Value} (hx : evo t x = some u) (hy : evo t y = some yv) (hr : Row m b0 s u c n) (hs : Sl yv a o xl) (hrd : 0 < xl → RdL m a o new) (hE : elemB P X = some (e, s, by_, z)) (hY : P.underlying Y = some (.slice e'))
    (hn : new.length = xl * s) (hn1 : new.all (·.oneCell') = true) (h0 : Nat.blt 0 s = true) (hb : (n + xl) * by_ ≤ 1099511627776 ∧ n + xl ≤ 1099511627776) (hlt : Nat.blt d nt = true) (hbm : b0 ≤ m.length)
    (hK : ∀ u' M', Row M' b0 s u' (c ++ new) (n + xl) → m.length ≤ M'.length → (∀ j, j < m.length → NotOf u j → M'[j]? = m[j]?) → (∀ j, j < m.length → NotOf u j → NotOf u' j) → (∀ (i : Nat) (b : Blk), M'[i]? = some (some b) → isMapK b.kind = true → m[i]? = some (some b)) → K (put t d u') M') :
    Step P nt ops ⟨some d, .call ⟨.builtin .append, #[x, y], #[X, Y]⟩, T, p, af, none⟩ t m K := by
  have h0 : 0 < s := Nat.le_of_ble_eq_true h0
  obtain ⟨hc1, hc2⟩ := acells_sl hs hrd hn h0
  have fin : ∀ v m', aloud P ⟨some d, .call ⟨.builtin .append, #[x, y], #[X, Y]⟩, T, p, af, none⟩ (evD t) (m ++ [none]) m.length = some (v, m') → K (put t d v) m' → Step P nt ops ⟨some d, .call ⟨.builtin .append, #[x, y], #[X, Y]⟩, T, p, af, none⟩ t m K :=
    fun v m' h hk => .l rfl rfl hlt rfl (by simp [Op.operands, Call.operands, hx, hy]) (loud_of_aloud rfl h hk)
  have hnone : ¬ ((!(new.all (·.oneCell')) || s == 0) = true) := by simp [hn1]; omega
  have set1 : ∀ (M : AM) (b : Blk), M.length = m.length → (M ++ [none]).set m.length (some b) = M ++ [some b] := fun M b h => by
    rw [List.set_append_right _ _ (by omega), h]
    simp
  have mapN : ∀ (i : Nat) (b : Blk), (m ++ [none])[i]? = some (some b) → isMapK b.kind = true → m[i]? = some (some b) := fun i b hi _ => by
    rcases Nat.lt_or_ge i m.length with hl | hl
    · rwa [List.getElem?_append_left hl] at hi
    · rw [List.getElem?_append_right hl] at hi
      rcases Nat.eq_zero_or_pos (i - m.length) with e | e
      · rw [e] at hi; simp at hi
      · rw [List.getElem?_eq_none (by simp; omega)] at hi; cases hi
  have map1 : ∀ (g : Blk), isMapK g.kind = false → ∀ (i : Nat) (b : Blk), (m ++ [some g])[i]? = some (some b) → isMapK b.kind = true → m[i]? = some (some b) := fun g hg i b hi hb => by
    rcases Nat.lt_or_ge i m.length with hl | hl
    · rwa [List.getElem?_append_left hl] at hi
    · rw [List.getElem?_append_right hl] at hi
      rcases Nat.eq_zero_or_pos (i - m.length) with e | e
      · rw [e] at hi
        simp at hi
        subst hi
        rw [hg] at hb; cases hb
      · rw [List.getElem?_eq_none (by simp; omega)] at hi; cases hi
  have map2 : ∀ (q : Nat) (g : Blk), isMapK g.kind = false → ∀ (i : Nat) (b : Blk), (m.set q none ++ [some g])[i]? = some (some b) → isMapK b.kind = true → m[i]? = some (some b) := fun q g hg i b hi hb => by
    rcases Nat.lt_or_ge i m.length with hl | hl
    · rw [List.getElem?_append_left (by simpa using hl)] at hi
      by_cases e : q = i
      · subst e
        rw [List.getElem?_set_self hl] at hi
        injection hi with hi; cases hi
      · rwa [List.getElem?_set_ne e] at hi
    · rw [List.getElem?_append_right (by simpa using hl)] at hi
      simp only [List.length_set] at hi
      rcases Nat.eq_zero_or_pos (i - m.length) with e | e
      · rw [e] at hi
        simp at hi
        subst hi
        rw [hg] at hb; cases hb
      · rw [List.getElem?_eq_none (by simp; omega)] at hi; cases hi
  rcases hr with ⟨rfl, rfl, rfl⟩ | ⟨q, kd, sz, hq0, rfl, hq, hcl, hkd⟩
  · by_cases hx0 : xl = 0
    · subst hx0
      obtain rfl : new = [] := List.eq_nil_of_length_eq_zero (by simpa using hn)
      refine fin (.slice none 0 0) (m ++ [none]) ?_ (hK _ _ Row.nil (by simp) (fun j hj _ => List.getElem?_append_left hj) (fun j hj h => h) mapN)
      simp only [aloud, evD_of hx, evD_of hy, aappend, hE, hY, hc1, hc2]
      rw [if_neg hnone, if_pos trivial]
    · refine fin (.slice (some ⟨m.length, 0, none⟩) xl xl) (m ++ [some { cells := new, kind := .grow, size := s }]) ?_ (hK _ _ (.inr ⟨m.length, .grow, s, hbm, by rw [Nat.zero_add], by simp, by simpa using hn, .inr ⟨rfl, rfl⟩⟩) (by simp) (fun j hj _ => List.getElem?_append_left hj) (fun j hj h => NotOf.new hj) (map1 _ rfl))
      simp only [aloud, evD_of hx, evD_of hy, aappend, hE, hY, hc1, hc2]
      rw [if_neg hnone, if_neg hx0, if_pos (by simpa using hb), set1 m _ rfl]
  · have hg : (m ++ [none])[q]? = some (some { cells := c, kind := kd, size := sz }) := get_old _ hq
    have hql := (List.getElem?_eq_some_iff.1 hq).1
    by_cases hx0 : xl = 0
    · subst hx0
      obtain rfl : new = [] := List.eq_nil_of_length_eq_zero (by simpa using hn)
      refine fin (.slice (some ⟨q, 0, none⟩) n n) (m ++ [none]) ?_ (hK _ _ (.inr ⟨q, kd, sz, hq0, rfl, by rw [List.append_nil]; exact hg, by rw [List.append_nil]; exact hcl, hkd⟩) (by simp) (fun j hj _ => List.getElem?_append_left hj) (fun j hj h => h) mapN)
      simp only [aloud, evD_of hx, evD_of hy, aappend, hE, hY, hc1, hc2]
      rw [if_neg hnone, if_pos trivial]
    · have hcn : (c ++ new).length = (n + xl) * s := by rw [List.length_append, hcl, hn, Nat.add_mul]
      rcases hkd with rfl | ⟨rfl, rfl⟩
      · refine fin (.slice (some ⟨m.length, 0, none⟩) (n + xl) (n + xl)) (m ++ [some { cells := c ++ new, kind := .grow, size := s }]) ?_ (hK _ _ (.inr ⟨m.length, .grow, s, hbm, rfl, by simp, hcn, .inr ⟨rfl, rfl⟩⟩) (by simp) (fun j hj _ => List.getElem?_append_left hj) (fun j hj h => NotOf.new hj) (map1 _ rfl))
        simp only [aloud, evD_of hx, evD_of hy, aappend, hE, hY, hc1, hc2]
        rw [if_neg hnone, if_neg hx0]
        simp only [hg]
        rw [if_neg (by omega), if_pos ⟨hb.1, hb.2, Nat.le_refl _⟩, if_pos (by omega), set1 m _ rfl]
        simp [List.take_of_length_le (show c.length ≤ n * s by omega)]
      · refine fin (.slice (some ⟨m.length, 0, none⟩) (n + xl) (n + xl)) ((m.set q none) ++ [some { cells := c ++ new, kind := .grow, size := sz }]) ?_ (hK _ _ (.inr ⟨m.length, .grow, sz, hbm, rfl, by simp, hcn, .inr ⟨rfl, rfl⟩⟩) (by simp) (fun j hj hne => ?_) (fun j hj h => NotOf.new hj) (map2 _ _ rfl))
        · simp only [aloud, evD_of hx, evD_of hy, aappend, hE, hY, hc1, hc2]
          rw [if_neg hnone, if_neg hx0]
          simp only [hg]
          rw [if_neg (by omega), if_pos ⟨hb.1, hb.2, Nat.le_refl _⟩, if_pos ⟨by omega, trivial⟩, List.set_append_left _ _ hql, set1 (m.set q none) _ (by simp)]
          simp [List.take_of_length_le (show c.length ≤ n * sz by omega)]
        · rw [List.getElem?_append_left (by simpa using hj), List.getElem?_set_ne]
          rintro rfl
          exact hne n n rfl
end
theorem upL_noT {L : Nat → Bool} {i j : Nat} (h : upL L i j = false) : L j = false := by
  by_cases e : j = i
  · subst e; rw [upL_same] at h; cases h
  · rwa [upL_ne L e] at h
/-- What holds whatever of the region was done: 0 to 18 reckon, 19 makes the element, 20 adds it, 21 stores the row (in block q, or in slot 6 where q is no block). -/
structure TI (m0 : AM) (b0 q s : Nat) (base : List (Nat × Value)) (pv : Nat → Option Value) (u0 : Value) (c new : List Value) (n : Nat) (L : Nat → Bool) (t : Fm) (M : AM) : Prop where
  len : m0.length ≤ M.length
  old : ∀ e ∈ base, t e.1 = some e.2
  pure : ∀ j v, pv j = some v → L j = true → t (s + j) = some v
  keep : ∀ j, j < m0.length → j ≠ q → NotOf u0 j → M[j]? = m0[j]?
  row : L 20 = false → Row M b0 4 u0 c n
  cell : q < m0.length → L 21 = false → M[q]? = some (some { cells := [u0] })
  six : m0.length ≤ q → L 21 = false → t 6 = some u0
  lit : L 19 = true → ∃ a, t (s + 19) = some (.slice (some ⟨a, 0, none⟩) 1 1) ∧ (L 20 = false → RdL M a 0 new)
  app : L 20 = true → ∃ u, t (s + 20) = some u ∧ SlV u ∧ Row M b0 4 u (c ++ new) (n + 1) ∧ ∀ j, j < m0.length → NotOf u0 j → NotOf u j
  map : ∀ (i : Nat) (b : Blk), M[i]? = some (some b) → isMapK b.kind = true → m0[i]? = some (some b)
  c0 : L 20 = true → L 0 = true
  c21 : L 21 = true → L 20 = true
  fin : L 21 = true → ∃ u, Row M b0 4 u (c ++ new) (n + 1) ∧ (∀ j, j < m0.length → NotOf u0 j → NotOf u j) ∧ (q < m0.length → M[q]? = some (some { cells := [u] })) ∧ (m0.length ≤ q → t 6 = some u)
section
variable {m0 M : AM} {b0 q s : Nat} {base : List (Nat × Value)} {pv : Nat → Option Value} {u0 : Value} {c new : List Value} {n : Nat} {L : Nat → Bool} {t : Fm}
theorem TI.start (h : ∀ e ∈ base, t e.1 = some e.2) (hr : Row m0 b0 4 u0 c n) (hc : q < m0.length → m0[q]? = some (some { cells := [u0] })) (h6 : m0.length ≤ q → t 6 = some u0) : TI m0 b0 q s base pv u0 c new n (fun _ => false) t m0 :=
  ⟨Nat.le_refl _, h, fun _ _ _ q => (by cases q), fun _ _ _ _ => rfl, fun _ => hr, fun h _ => hc h, fun h _ => h6 h, fun q => (by cases q), fun q => (by cases q), fun i b hi _ => hi, fun q => (by cases q), fun q => (by cases q), fun q => (by cases q)⟩
theorem TI.put (h : TI m0 b0 q s base pv u0 c new n L t M) (hb : ∀ e ∈ base, e.1 < s) (hs : 6 < s) {j : Nat} {v : Value} (hv : pv j = some v) (hj : j < 19) : TI m0 b0 q s base pv u0 c new n (upL L j) (Abs.put t (s + j) v) M where
  len := h.len
  old := fun e he => by rw [put_ne t v (by have := hb e he; omega)]; exact h.old e he
  pure := fun k w hw hk => by
    by_cases e : k = j
    · subst e
      rw [hv] at hw
      injection hw with hw
      rw [put_same, hw]
    · rw [upL_ne L e] at hk
      rw [put_ne t v (by omega)]
      exact h.pure k w hw hk
  keep := h.keep
  row := fun r => h.row (upL_noT r)
  cell := fun r r2 => h.cell r (upL_noT r2)
  six := fun r r2 => by rw [put_ne t v (by omega)]; exact h.six r (upL_noT r2)
  lit := fun r => by
    rw [upL_ne L (by omega)] at r
    obtain ⟨a, a1, a2⟩ := h.lit r
    exact ⟨a, by rw [put_ne t v (by omega)]; exact a1, fun r => a2 (upL_noT r)⟩
  app := fun r => by
    rw [upL_ne L (by omega)] at r
    obtain ⟨a, a1, a2⟩ := h.app r
    exact ⟨a, by rw [put_ne t v (by omega)]; exact a1, a2⟩
  map := h.map
  c0 := fun r => by
    rw [upL_ne L (by omega)] at r
    by_cases e : 0 = j
    · rw [← e]; exact upL_same _ _
    · rw [upL_ne L e]; exact h.c0 r
  c21 := fun r => by rw [upL_ne L (by omega)] at r ⊢; exact h.c21 r
  fin := fun r => by
    rw [upL_ne L (by omega)] at r
    obtain ⟨a, a1, a2, a3, a4⟩ := h.fin r
    exact ⟨a, a1, a2, a3, fun r => by rw [put_ne t v (by omega)]; exact a4 r⟩
theorem TI.setLit (h : TI m0 b0 q s base pv u0 c new n L t M) (hb : ∀ e ∈ base, e.1 < s) (hs : 6 < s) (hp : pv 19 = none) : TI m0 b0 q s base pv u0 c new n (upL L 19) (Abs.put t (s + 19) (.slice (some ⟨M.length, 0, none⟩) 1 1)) (M ++ [some { cells := new }]) where
  len := by have := h.len; rw [List.length_append]; omega
  old := fun e he => by rw [put_ne t _ (by have := hb e he; omega)]; exact h.old e he
  pure := fun k w hw hk => by
    have e : k ≠ 19 := fun e => by rw [e, hp] at hw; cases hw
    rw [upL_ne L e] at hk
    rw [put_ne t _ (by omega)]
    exact h.pure k w hw hk
  keep := fun j hj hne hn => by rw [List.getElem?_append_left (by have := h.len; omega)]; exact h.keep j hj hne hn
  row := fun r => (h.row (upL_noT r)).old _
  cell := fun r r2 => get_old _ (h.cell r (upL_noT r2))
  six := fun r r2 => by rw [put_ne t _ (by omega)]; exact h.six r (upL_noT r2)
  lit := fun _ => ⟨M.length, put_same .., fun _ => ⟨{ cells := new }, by simp, fun j v hj => by rw [Nat.zero_add]; exact hj⟩⟩
  app := fun r => by
    rw [upL_ne L (by omega)] at r
    obtain ⟨a, a1, a2, a3, a4⟩ := h.app r
    exact ⟨a, by rw [put_ne t _ (by omega)]; exact a1, a2, a3.old _, a4⟩
  map := fun i b hi hb => by
    rcases Nat.lt_or_ge i M.length with hl | hl
    · rw [List.getElem?_append_left hl] at hi; exact h.map i b hi hb
    · rw [List.getElem?_append_right hl] at hi
      rcases Nat.eq_zero_or_pos (i - M.length) with e | e
      · rw [e] at hi
        simp at hi
        subst hi
        cases hb
      · rw [List.getElem?_eq_none (by simp; omega)] at hi; cases hi
  c0 := fun r => by rw [upL_ne L (by omega)] at r ⊢; exact h.c0 r
  c21 := fun r => by rw [upL_ne L (by omega)] at r ⊢; exact h.c21 r
  fin := fun r => by
    rw [upL_ne L (by omega)] at r
    obtain ⟨a, a1, a2, a3, a4⟩ := h.fin r
    exact ⟨a, a1.old _, a2, fun r => get_old _ (a3 r), fun r => by rw [put_ne t _ (by omega)]; exact a4 r⟩
theorem TI.setApp (h : TI m0 b0 q s base pv u0 c new n L t M) (hb : ∀ e ∈ base, e.1 < s) (hs : 6 < s) (hp : pv 20 = none) (h0 : L 0 = true) (h20 : L 20 = false) (hq : q < m0.length → NotOf u0 q) {u : Value} {M' : AM} (hr : Row M' b0 4 u (c ++ new) (n + 1)) (hml : M.length ≤ M'.length) (hk : ∀ j, j < M.length → NotOf u0 j → M'[j]? = M[j]?) (hk2 : ∀ j, j < M.length → NotOf u0 j → NotOf u j) (hk3 : ∀ (i : Nat) (b : Blk), M'[i]? = some (some b) → isMapK b.kind = true → M[i]? = some (some b)) : TI m0 b0 q s base pv u0 c new n (upL L 20) (Abs.put t (s + 20) u) M' where
  len := by have := h.len; omega
  old := fun e he => by rw [put_ne t _ (by have := hb e he; omega)]; exact h.old e he
  pure := fun k w hw hk => by
    have e : k ≠ 20 := fun e => by rw [e, hp] at hw; cases hw
    rw [upL_ne L e] at hk
    rw [put_ne t _ (by omega)]
    exact h.pure k w hw hk
  keep := fun j hj hne hn => by rw [hk j (by have := h.len; omega) hn]; exact h.keep j hj hne hn
  row := fun r => by rw [upL_same] at r; cases r
  cell := fun r r2 => by rw [hk q (by have := h.len; omega) (hq r)]; exact h.cell r (upL_noT r2)
  six := fun r r2 => by rw [put_ne t _ (by omega)]; exact h.six r (upL_noT r2)
  lit := fun r => by
    rw [upL_ne L (by omega)] at r
    obtain ⟨a, a1, a2⟩ := h.lit r
    exact ⟨a, by rw [put_ne t _ (by omega)]; exact a1, fun r => by rw [upL_same] at r; cases r⟩
  app := fun r => ⟨u, put_same .., hr.slv, hr, fun j hj hn => hk2 j (by have := h.len; omega) hn⟩
  map := fun i b hi hb => h.map i b (hk3 i b hi hb) hb
  c0 := fun _ => by rw [upL_ne L (by omega)]; exact h0
  c21 := fun _ => upL_same _ _
  fin := fun r => by
    rw [upL_ne L (by omega)] at r
    rw [h.c21 r] at h20
    cases h20
theorem TI.setSto (h : TI m0 b0 q s base pv u0 c new n L t M) (h20 : L 20 = true) (hp : pv 21 = none) (hqm : q < m0.length) (hq : NotOf u0 q) : ∃ u, t (s + 20) = some u ∧ SlV u ∧ TI m0 b0 q s base pv u0 c new n (upL L 21) t (M.set q (some { cells := [u] })) := by
  obtain ⟨u, a1, a2, a3, a4⟩ := h.app h20
  have hlen := h.len
  refine ⟨u, a1, a2, ?_⟩
  exact
  { len := by rw [List.length_set]; exact hlen
    old := h.old
    pure := fun k w hw hk => by
      have e : k ≠ 21 := fun e => by rw [e, hp] at hw; cases hw
      rw [upL_ne L e] at hk
      exact h.pure k w hw hk
    keep := fun j hj hne hn => by rw [List.getElem?_set_ne (Ne.symm hne)]; exact h.keep j hj hne hn
    row := fun r => by rw [upL_ne L (by omega), h20] at r; cases r
    cell := fun r r2 => by rw [upL_same] at r2; cases r2
    six := fun r r2 => by omega
    lit := fun r => by
      rw [upL_ne L (by omega)] at r
      obtain ⟨a, b1, b2⟩ := h.lit r
      exact ⟨a, b1, fun r => by rw [upL_ne L (by omega), h20] at r; cases r⟩
    app := fun r => ⟨u, a1, a2, a3.set (a4 q hqm hq), a4⟩
    map := fun i b hi hb => by
      by_cases e : q = i
      · subst e
        rw [List.getElem?_set_self (by omega)] at hi
        injection hi with hi; injection hi with hi; subst hi
        cases hb
      · rw [List.getElem?_set_ne e] at hi; exact h.map i b hi hb
    c0 := fun r => by rw [upL_ne L (by omega)] at r ⊢; exact h.c0 r
    c21 := fun _ => by rw [upL_ne L (by omega)]; exact h20
    fin := fun _ => ⟨u, a3.set (a4 q hqm hq), a4, fun _ => List.getElem?_set_self (by omega), fun r => by omega⟩ }
theorem TI.setAsg (h : TI m0 b0 q s base pv u0 c new n L t M) (hb : ∀ e ∈ base, e.1 ≠ 6) (hs : 6 < s) (h20 : L 20 = true) (hp : pv 21 = none) (hqm : m0.length ≤ q) : ∃ u, t (s + 20) = some u ∧ TI m0 b0 q s base pv u0 c new n (upL L 21) (Abs.put t 6 u) M := by
  obtain ⟨u, a1, a2, a3, a4⟩ := h.app h20
  have hlen := h.len
  refine ⟨u, a1, ?_⟩
  exact
  { len := hlen
    old := fun e he => by rw [put_ne t _ (hb e he)]; exact h.old e he
    pure := fun k w hw hk => by
      have e : k ≠ 21 := fun e => by rw [e, hp] at hw; cases hw
      rw [upL_ne L e] at hk
      rw [put_ne t _ (by omega)]
      exact h.pure k w hw hk
    keep := h.keep
    row := fun r => by rw [upL_ne L (by omega), h20] at r; cases r
    cell := fun r r2 => by omega
    six := fun r r2 => by rw [upL_same] at r2; cases r2
    lit := fun r => by
      rw [upL_ne L (by omega)] at r
      obtain ⟨a, b1, b2⟩ := h.lit r
      exact ⟨a, by rw [put_ne t _ (by omega)]; exact b1, fun r => by rw [upL_ne L (by omega), h20] at r; cases r⟩
    app := fun r => ⟨u, by rw [put_ne t _ (by omega)]; exact a1, a2, a3, a4⟩
    map := h.map
    c0 := fun r => by rw [upL_ne L (by omega)] at r ⊢; exact h.c0 r
    c21 := fun _ => by rw [upL_ne L (by omega)]; exact h20
    fin := fun _ => ⟨u, a3, a4, fun r => by omega, fun _ => put_same ..⟩ }
end
end Go.Proofs.Ytabdnepfcohncaa.Abs
namespace Go.Proofs.Ytabdnepfcohncaa.Abs
set_option linter.unusedSimpArgs false
set_option linter.unusedVariables false
open Go.RowKit
open Go.Proofs.Ytabdnepfcohncaa.Sim
open Go.Proofs
/-- A place is named, nothing lies in it. -/
theorem Post.none_put {base : Nat} {R : Pl} {m : AM} {w : World} (h : MRep base R m w) (q : Sim.Place) : Post base m (m ++ [none]) R (R.put m.length q) w w := by
  have hle := Pl.le_put R m.length q (h.none_ _ (Nat.le_refl _))
  have old : ∀ (i : Nat) (b : Blk), (m ++ [none])[i]? = some (some b) → m[i]? = some (some b) := by
    intro i b hi
    rcases Nat.lt_or_ge i m.length with hl | hl
    · rwa [List.getElem?_append_left hl] at hi
    · rw [List.getElem?_append_right hl] at hi
      rcases Nat.eq_zero_or_pos (i - m.length) with e | e
      · rw [e] at hi; simp at hi
      · rw [List.getElem?_eq_none (by simp; omega)] at hi; cases hi
  have ne : ∀ (i : Nat) (b : Blk), m[i]? = some (some b) → i ≠ m.length := fun i b hi => by
    have := (List.getElem?_eq_some_iff.1 hi).1
    omega
  refine ⟨hle, ⟨fun j hj => ?_, fun j d hj => ?_, fun i j b c p r hi hj hb hc hij hp hr => ?_⟩, rfl, rfl, rfl, Nat.le_refl _, fun _ _ _ => rfl, fun k ho => .inr ?_⟩
  · simp at hj
    rw [Pl.put_other _ _ (by omega)]
    exact h.none_ j (by omega)
  · obtain ⟨r, h1, h2⟩ := h.rep j d (old j d hj)
    exact ⟨r, hle _ _ h1, h2.mono hle⟩
  · rw [Pl.put_other _ _ (ne i b (old i b hi))] at hp
    rw [Pl.put_other _ _ (ne j c (old j c hj))] at hr
    exact h.apart i j b c p r (old i b hi) (old j c hj) hb hc hij hp hr
  · obtain ⟨i, b, p, h1, h2, h3, h4⟩ := ho
    rw [Pl.put_other _ _ (ne i b (old i b h1))] at h3
    exact ⟨i, b, p, old i b h1, h2, h3, h4⟩
section
variable {P : Program} {nt : Nat} {ops : Array Oper} {t : Fm} {m : AM} {K : Fm → AM → Prop} {d T : Nat} {p : String} {af : Array Edge}
/-- A row without its first elements, whatever room it has. -/
theorem Step.restN {x y : Operand} {X e s a o n c l : Nat} {kk : IntKind} {i : Int} (hx : evo t x = some (.slice (some ⟨a, o, none⟩) n c)) (hy : evo t y = some (.int kk i)) (hi : i = ((l : Nat) : Int)) (hl : l ≤ n) (hn : n ≤ c) (hX : P.underlying X = some (.slice e)) (hsz : szB P e = some s)
    (hlt : Nat.blt d nt = true) (hK : ∀ a' o', a' < m.length + 1 ∨ a' = a → (l < n → a' = a ∧ o' = o + l * s) → K (put t d (.slice (some ⟨a', o', none⟩) (n - l) (c - l))) (m ++ [none])) : Step P nt ops ⟨some d, .slice X x (some y) none none, T, p, af, none⟩ t m K := by
  subst hi
  refine .l rfl rfl hlt (by simp [stillB, hX]) (by simp [Op.operands, hx, hy]) ?_
  intro base R w b Q next hb hm hev hn'
  have h1 := hev x (by simp [Op.operands])
  have h2 := hev y (by simp [Op.operands])
  rw [evD_of hx] at h1
  rw [evD_of hy] at h2
  obtain ⟨q, hq, ex⟩ : ∃ q, R a = some q ∧ b.eval x = .slice (some ⟨q.block, q.off + o, none⟩) n (c + q.extra) := by
    generalize b.eval x = x' at h1
    cases h1 with
    | slice _ _ _ _ q hq hle => exact ⟨q, hq, rfl⟩
  have ey : b.eval y = .int kk ((l : Nat) : Int) := by
    generalize b.eval y = y' at h2
    cases h2
    rfl
  have b1 : bnd 0 (some (.int kk ((l : Nat) : Int))) = some l := by simp [bnd]
  have b2 : bnd n none = some n := by simp [bnd]
  obtain ⟨u, hu⟩ : ∃ u, u = (if c + q.extra = l then (⟨q.block, q.off + o, none⟩ : Addr) else (⟨q.block, q.off + o, none⟩ : Addr).add (l * s)) := ⟨_, rfl⟩
  have hr : (Instr.sliceAt X (b.eval x) (some (b.eval y)) none none).run P w = .ok (.slice (some u) (n - l) (c + q.extra - l)) w := by
    rw [ex, ey, hu]
    simp [Instr.sliceAt, Instr.slice, run_underlying hX, run_bounds (P := P) b1 b2 hl (show n ≤ c + q.extra by omega), run_sizeOf' hsz]
    split <;> rfl
  have hx' : (execOp b.eval ⟨some d, .slice X x (some y) none none, T, p, af, none⟩).run P w = .ok (.value (.slice (some u) (n - l) (c + q.extra - l))) w := by simp [execOp, hr]
  by_cases hc : c = l
  · obtain rfl : n = l := by omega
    subst hc
    have hrel : ∃ z : Sim.Place, u = ⟨z.block, z.off, none⟩ ∧ z.extra = q.extra := by
      by_cases hz : c + q.extra = c
      · rw [if_pos hz] at hu
        exact ⟨⟨q.block, q.off + o, q.extra⟩, hu, rfl⟩
      · rw [if_neg hz, Addr.add_lit] at hu
        exact ⟨⟨q.block, q.off + o + c * s, q.extra⟩, hu, rfl⟩
    obtain ⟨z, hz, hze⟩ := hrel
    refine wp_of_does rfl (.inl hx') (hn' (R.put m.length z) (.slice (some ⟨m.length, 0, none⟩) (c - c) (c - c)) _ _ w ?_ (Post.none_put hm z) (hK m.length 0 (.inl (by omega)) (fun h => by omega)))
    have := Rel.slice (R := R.put m.length z) m.length 0 0 0 z (Pl.put_same _ _ _) (Nat.le_refl _)
    rw [hze] at this
    rw [hz, show c + q.extra - c = q.extra by omega, Nat.sub_self]
    simpa using this
  · refine wp_of_does rfl (.inl hx') (hn' (R.put m.length q) (.slice (some ⟨a, o + l * s, none⟩) (n - l) (c - l)) _ _ w ?_ (Post.none_put hm q) (hK a (o + l * s) (.inr rfl) (fun _ => ⟨rfl, rfl⟩)))
    have hle := Pl.le_put R m.length q (hm.none_ _ (Nat.le_refl _))
    have := Rel.slice (R := R.put m.length q) a (o + l * s) (n - l) (c - l) q (hle _ _ hq) (by omega)
    rw [if_neg (by omega), Addr.add_lit] at hu
    rw [hu, show c + q.extra - l = c - l + q.extra by omega]
    simpa [Nat.add_assoc] using this
end
/-- The transfer of six bytes. -/
def decX (xs : List UInt8) : Tr := ⟨(((xs.getD 0 0).toNat : Nat) : Int) / 16, (((xs.getD 0 0).toNat : Nat) : Int) % 16, (((xs.getD 1 0).toNat : Nat) : Int), ((numB (xs.drop 2) : Nat) : Int)⟩
def sixB (r : List UInt8) (k : Nat) : List UInt8 := (r.drop (6 * k)).take 6
def decL (r : List UInt8) (n : Nat) : List Tr := (List.range n).map fun k => decX (sixB r k)
theorem decL_len (r : List UInt8) (n : Nat) : (decL r n).length = n := by simp [decL]
theorem decL_succ (r : List UInt8) (n : Nat) : decL r (n + 1) = decL r n ++ [decX (sixB r n)] := by simp [decL, List.range_succ]
theorem sixB_len {r : List UInt8} {n k : Nat} (h : 6 * n ≤ r.length) (hk : k < n) : (sixB r k).length = 6 := by
  unfold sixB; rw [List.length_take, List.length_drop]; omega
theorem sixB_get {r : List UInt8} {k j : Nat} (hj : j < 6) : (sixB r k).getD j 0 = r.getD (6 * k + j) 0 := by
  unfold sixB
  simp only [List.getD_eq_getElem?_getD, List.getElem?_take, List.getElem?_drop, if_pos hj]
/-- The reference's Load. -/
def rloadF : Nat → List UInt8 → List (List Tr) → Option (List (List Tr))
  | _, [], P => some P
  | 0, _ :: _, _ => none
  | f + 1, c :: r, P => if r.length < 6 * c.toNat then none else if (rpostF P (decL r c.toNat)).2.2 ≠ 0 then none else rloadF f (r.drop (6 * c.toNat)) (rpostF P (decL r c.toNat)).1
theorem bl88 : abuild Try.prog 88 [] = some (.agg #[.slice none 0 0]) := by kernel_rfl
theorem bl61 {a b c d : Int} : abuild Try.prog 61 [(0, .int .i64 a), (1, .int .i64 b), (2, .int .i64 c), (3, .int .i64 d)] = some (.agg #[.int .i64 a, .int .i64 b, .int .i64 c, .int .i64 d]) := by kernel_rfl
theorem bl63 {a b c d : Int} : abuild Try.prog 63 [(0, .int .i64 a), (1, .int .i64 b), (2, .int .i64 c), (3, .int .i64 d)] = some (.agg #[.int .i64 a, .int .i64 b, .int .i64 c, .int .i64 d]) := by kernel_rfl
theorem bs48 {m : AM} {k : Nat} {a b c d : Int} : abuildSlice Try.prog m k 48 1 [(0, .agg #[.int .i64 a, .int .i64 b, .int .i64 c, .int .i64 d])] = some (.slice (some ⟨k, 0, none⟩) 1 1, m.set k (some { cells := [.int .i64 a, .int .i64 b, .int .i64 c, .int .i64 d] })) := by kernel_rfl
theorem bs55 {m : AM} {k : Nat} {a b c d : Int} : abuildSlice Try.prog m k 55 1 [(0, .agg #[.int .i64 a, .int .i64 b, .int .i64 c, .int .i64 d])] = some (.slice (some ⟨k, 0, none⟩) 1 1, m.set k (some { cells := [.int .i64 a, .int .i64 b, .int .i64 c, .int .i64 d] })) := by kernel_rfl
theorem el22B : elB Try.prog 22 = some 1 := by kernel_rfl
theorem sz5 : szB Try.prog 5 = some 1 := by kernel_rfl
/-- What an operation that reckons has made. -/
def pvX (wa wo wc : Nat) (u0 : Value) (xs : List UInt8) : Nat → Option Value
  | 0 => some u0
  | 1 => some (.slice (some ⟨wa, wo, none⟩) 6 wc)
  | 2 => some (.pointer (some ⟨wa, wo + 0, none⟩))
  | 3 => some (.int .u8 ((xs.getD 0 0).toNat : Nat))
  | 4 => some (.int .i64 ((xs.getD 0 0).toNat : Nat))
  | 5 => some (.int .i64 ((((xs.getD 0 0).toNat : Nat) : Int) / 16))
  | 6 => some (.slice (some ⟨wa, wo, none⟩) 6 wc)
  | 7 => some (.pointer (some ⟨wa, wo + 0, none⟩))
  | 8 => some (.int .u8 ((xs.getD 0 0).toNat : Nat))
  | 9 => some (.int .i64 ((xs.getD 0 0).toNat : Nat))
  | 10 => some (.int .i64 ((((xs.getD 0 0).toNat : Nat) : Int) % 16))
  | 11 => some (.slice (some ⟨wa, wo, none⟩) 6 wc)
  | 12 => some (.pointer (some ⟨wa, wo + 1, none⟩))
  | 13 => some (.int .u8 ((xs.getD 1 0).toNat : Nat))
  | 14 => some (.int .i64 ((xs.getD 1 0).toNat : Nat))
  | 15 => some (.slice (some ⟨wa, wo, none⟩) 6 wc)
  | 16 => some (.slice (some ⟨wa, wo + 2 * 1, none⟩) (6 - 2) (wc - 2))
  | 17 => some (.int .i64 (numB (xs.drop 2) : Nat))
  | 18 => some (decX xs).v
  | _ => none
/-- Bytes that come from elsewhere. -/
def BytsAt (m : AM) (v : Value) (a o : Nat) (l : List UInt8) : Prop := Sl v a o l.length ∧ ∀ k, k < l.length → Rd m a (o + k) (.int .u8 ((l.getD k 0).toNat : Nat))
theorem BytsAt.keep {m M : AM} {v : Value} {a o : Nat} {l : List UInt8} (h : BytsAt m v a o l) (hk : M[a]? = m[a]?) : BytsAt M v a o l := ⟨h.1, fun k hk' => by
  obtain ⟨b, q1, q2⟩ := h.2 k hk'
  exact ⟨b, by rw [hk]; exact q1, q2⟩⟩
theorem PostsAt.notOf {M : AM} {b0 a sz : Nat} {kd : Kind} {pv : Value} {P : List (List Tr)} {l : List Tr} (h : PostsAt M b0 pv P) (ha : M[a]? = some (some { cells := tcs l, kind := kd, size := sz })) (hl : 0 < l.length) : NotOf pv a := by
  intro n c e
  obtain ⟨pc, hrow, hps⟩ := h
  rcases hrow with ⟨h0, _⟩ | ⟨a', kd', sz', k1, k2, k3, k4, k5⟩
  · rw [e] at h0; cases h0
  · rw [k2] at e
    simp only [Value.slice.injEq, Option.some.injEq, Addr.mk.injEq] at e
    obtain ⟨rfl, _⟩ := e.1
    rw [ha] at k3
    injection k3 with k3; injection k3 with k3
    injection k3 with k3 _ _
    subst k3
    rw [tcs_len] at k4
    obtain ⟨u, q1, a'', _, _, q4, _⟩ := hps 0 (by omega)
    have := tcs_get l 0 hl 0 _ rfl
    simp only [Nat.zero_mul, Nat.zero_add] at this
    rw [this] at q1
    injection q1 with q1
    rw [q4] at q1
    cases q1
/-- A row just made stays a row of transfers whatever a book does. -/
theorem Row.trsKeep {M M' : AM} {b0 b1 xk : Nat} {pv u : Value} {P : List (List Tr)} {l : List Tr} (hX : PostsAt M b1 pv P) (hne : ∀ a x, Rd M a 0 (.int .i64 x) → a ≠ xk) (hr : Row M b0 4 u (tcs l) l.length) (h0 : 0 < M.length) (hF : Fr M M' xk pv) : Trs M' u l := by
  rcases hr with ⟨rfl, h1, h2⟩ | ⟨a, kd, sz, k1, rfl, k3, k4, k5⟩
  · obtain rfl := List.eq_nil_of_length_eq_zero h2
    exact Trs.nil (by have := hF.1; omega)
  · have hal := (List.getElem?_eq_some_iff.1 k3).1
    by_cases hl : 0 < l.length
    · have hrd : Rd M a 0 (.int .i64 (l.getD 0 default).i) := ⟨_, k3, by simpa using tcs_get l 0 hl 0 _ rfl⟩
      have e : M'[a]? = M[a]? := hF.2 a hal (hne a _ hrd) (hX.notOf k3 hl)
      exact ⟨a, 0, Sl.mk (Nat.le_refl _), by have := hF.1; omega, fun k hk => ⟨_, by rw [e]; exact k3, fun j v hj => by rw [Nat.zero_add]; exact tcs_get l k hk j v hj⟩⟩
    · obtain rfl := List.eq_nil_of_length_eq_zero (show l.length = 0 by omega)
      exact ⟨a, 0, Sl.mk (Nat.le_refl _), by have := hF.1; omega, fun k hk => by simp at hk⟩
theorem rpostF_ok {P : List (List Tr)} {l : List Tr} (h : ∀ q ∈ P, postB q = true) : (∀ q ∈ (rpostF P l).1, postB q = true) ∧ (rpostF P l).1.length ≤ P.length + 1 := by
  unfold rpostF
  split
  · exact ⟨h, Nat.le_succ _⟩
  · rename_i hp
    split
    · exact ⟨h, Nat.le_succ _⟩
    · split
      · exact ⟨h, Nat.le_succ _⟩
      · refine ⟨fun q hq => ?_, by simp⟩
        rcases List.mem_append.1 hq with hq | hq
        · exact h q hq
        · simp only [List.mem_singleton] at hq
          subst hq
          simpa using hp
set_option maxHeartbeats 8000000 in
set_option maxRecDepth 100000 in
theorem RLoad_ok {m : AM} {v : Value} {a o : Nat} {s : List UInt8} (h : BytsAt m v a o s) (ha : a < m.length) (hlen : s.length ≤ 100000) :
    ACall Try.prog 35 #[v] m (fun r M => (∃ N, M = m ++ N) ∧ match rloadF s.length s [] with
      | none => r = .tuple #[.pointer none, .int .i64 6]
      | some P => ∃ xk pv, r = .tuple #[.pointer (some ⟨xk, 0, none⟩), .int .i64 0] ∧ RBook M m.length xk P pv) := by
  refine ACall.start Try.func35 rfl rfl ?_
  (repeat (first | (with_reducible refine AWo.cons ?_) | ((with_reducible refine Step.id ?_); first | ((with_reducible apply Step.assign); exact rfl; exact rfl) | ((with_reducible apply Step.box 0); exact rfl; exact rfl; (focus (kernel_rfl)); exact rfl; (focus (first | (simp only [List.nil_append, List.cons_append, List.set_cons_zero, List.set_cons_succ, iv_set, bv_set, iv_rep, bv_rep]; done) | (simp only [List.nil_append, List.cons_append, List.set_cons_zero, List.set_cons_succ, iv_set, bv_set, iv_rep, bv_rep]; rfl) | rfl))) | ((with_reducible apply Step.build); exact rfl; exact bl88; exact rfl)) | (with_reducible refine AWo.nil ?_) | ((with_reducible apply AW.seq)) | ((with_reducible apply Then.n)) | ((with_reducible apply AW.regL)) | ((with_reducible apply AW.block))))
  refine AW.loopW (fun q t M => ∃ (r : List UInt8) (P : List (List Tr)) (pv v' : Value) (a' o' f : Nat), q = r.length ∧ r.length ≤ f ∧ rloadF f r P = rloadF s.length s [] ∧ r.length ≤ s.length ∧ P.length + r.length ≤ s.length ∧ (∀ l ∈ P, postB l = true) ∧
    BytsAt M v' a' o' r ∧ a' < M.length ∧ (0 < r.length → a' = a) ∧ RBook M m.length (m.length + 0) P pv ∧ (∃ N, M = m ++ N) ∧
    t = fr [(0, v'), (4, .pointer (some ⟨m.length + 0, 0, none⟩))])
    ⟨_, _, (by repeat (first | exact trivial | (refine And.intro rfl ?_))), s, [], .slice none 0 0, v, a, o, s.length, rfl, Nat.le_refl _, rfl, Nat.le_refl _, by simp, fun l hl => by simp at hl, h.keep (List.getElem?_append_left ha), by rw [List.length_append]; omega, fun _ => rfl,
      ⟨by omega, by rw [get_app]; rfl, ⟨[], Row.nil, fun k hk => by simp at hk⟩⟩, ⟨_, rfl⟩, rfl⟩ ?_
  rintro q t M ⟨r, P, pv, v', a', o', f, rfl, hf, hR, hrl, hPl, hok, hB, haM, haa, hX, ⟨N, rfl⟩, rfl⟩
  obtain ⟨h1, h2⟩ := id hB
  rcases r with _ | ⟨c, r⟩
  · have e : rloadF f [] P = some P := by cases f <;> rfl
    rw [e] at hR
    rw [← hR]
    refine AW.rebase ?_
    (repeat (first | (with_reducible refine AWo.cons ?_) | ((with_reducible refine Step.id ?_); first | ((with_reducible apply Step.move); exact rfl; exact rfl) | ((with_reducible apply Step.assign); exact rfl; exact rfl) | ((with_reducible apply Step.gtr); exact rfl; exact rfl; exact rfl) | ((with_reducible apply Step.len); exact rfl; (focus (assumption)); (focus (decide +kernel)); exact rfl)) | (with_reducible refine AWo.nil ?_) | ((with_reducible apply AW.seq)) | ((with_reducible apply Then.n)) | ((with_reducible apply AW.regL)) | ((with_reducible apply AW.exit)) | ((with_reducible apply InBlk.hit)) | ((with_reducible apply Then.e)) | ((with_reducible apply AW.condF); exact rfl; (focus (rfl)))))
    (refine AW.ret ?_; (repeat (first | refine Then.r ?_ | refine InBlk.r ?_)))
    exact ⟨_, rfl, ⟨N, by rw [List.append_nil]⟩, _, pv, rfl, by rw [List.append_nil]; exact hX⟩
  · obtain ⟨cv, hcv, rfl⟩ : ∃ cv, r.length + 1 ≤ cv ∧ v' = .slice (some ⟨a', o', none⟩) (r.length + 1) cv := by
      rcases h1 with ⟨_, e⟩ | ⟨cv, q1, q2⟩ | ⟨e, _⟩
      · simp at e
      · exact ⟨cv, q1, q2⟩
      · simp at e
    rw [List.length_cons] at h1
    obtain rfl := haa (by simp)
    obtain ⟨f, rfl⟩ : ∃ f', f = f' + 1 := ⟨f - 1, by simp at hf; omega⟩
    have rc := h2 0 (by simp)
    have hcb := c.toNat_lt
    simp only [List.getD_cons_zero] at rc
    rw [List.length_cons] at hf hrl hPl
    have er : rloadF (f + 1) (c :: r) P = if r.length < 6 * c.toNat then none else if (rpostF P (decL r c.toNat)).2.2 ≠ 0 then none else rloadF f (r.drop (6 * c.toNat)) (rpostF P (decL r c.toNat)).1 := rfl
    rw [er] at hR
    refine AW.rebase ?_
    have hmulc : (6 : Int) * ((c.toNat : Nat) : Int) = ((6 * c.toNat : Nat) : Int) := by omega
    have haddc : (1 : Int) + ((6 * c.toNat : Nat) : Int) = ((1 + 6 * c.toNat : Nat) : Int) := by omega
    by_cases c1 : r.length < 6 * c.toNat
    · rw [if_pos c1] at hR
      rw [← hR]
      generalize c.toNat = n at *
      (repeat (first | (with_reducible refine AWo.cons ?_) | ((with_reducible refine Step.id ?_); first | ((with_reducible apply Step.move); exact rfl; exact rfl) | ((with_reducible apply Step.assign); exact rfl; exact rfl) | ((with_reducible apply Step.load); exact rfl; (focus (decide +kernel)); exact rfl; (focus (exact Rd.old _ (by assumption)))) | ((with_reducible apply Step.ix1 (k := 0)); exact rfl; (focus (assumption)); exact rfl; (focus (decide +kernel)); exact rfl; (focus (omega))) | ((with_reducible apply Step.addE); exact rfl; exact rfl; (focus (assumption)); (focus (omega)); exact rfl) | ((with_reducible apply Step.mulE); exact rfl; exact rfl; (focus (assumption)); (focus (omega)); exact rfl) | ((with_reducible apply Step.u8I); exact rfl; exact un5; exact un3; (focus (omega)); exact rfl) | ((with_reducible apply Step.lss); exact rfl; exact rfl; exact rfl) | ((with_reducible apply Step.gtr); exact rfl; exact rfl; exact rfl) | ((with_reducible apply Step.len); exact rfl; (focus (assumption)); (focus (decide +kernel)); exact rfl)) | (with_reducible refine AWo.nil ?_) | ((with_reducible apply AW.seq)) | ((with_reducible apply Then.n)) | ((with_reducible apply AW.regL)) | ((with_reducible apply AW.block)) | ((with_reducible apply AW.skip)) | ((with_reducible apply AW.condT); exact rfl; (focus ((simp only [decide_eq_true_eq, decide_eq_false_iff_not, Bool.not_eq_true', Bool.not_eq_false', Bool.not_true, Bool.not_false]; first | assumption | omega))))))
      (refine AW.ret ?_; (repeat (first | refine Then.r ?_ | refine InBlk.r ?_)))
      exact ⟨_, rfl, ⟨N, by rw [List.append_nil]⟩, rfl⟩
    · rw [if_neg c1] at hR
      have hwn : ∀ k, k < r.length → Rd (m ++ N) a' (o' + 1 + k) (.int .u8 ((r.getD k 0).toNat : Nat)) := fun k hk => by
        have := h2 (k + 1) (by simp; omega)
        simp only [List.getD_cons_succ] at this
        rwa [show o' + (k + 1) = o' + 1 + k by omega] at this
      have hflen := flat_len hok
      have hsm : smallT P.flatten := fun x hx => by
        obtain ⟨l, hl, hx⟩ := List.mem_flatten.1 hx
        exact ok_small (postB_all (hok l hl)).2.2 x hx
      have hdr : (r.drop (6 * c.toNat)).length = r.length - 6 * c.toNat := List.length_drop
      have hdg : ∀ k, k < r.length - 6 * c.toNat → (r.drop (6 * c.toNat)).getD k 0 = r.getD (6 * c.toNat + k) 0 := fun k hk => by
        simp only [List.getD_eq_getElem?_getD, List.getElem?_drop]
      generalize c.toNat = n at *
      have hn6 : 6 * n ≤ r.length := by omega
      (repeat (first | (with_reducible refine AWo.cons ?_) | ((with_reducible refine Step.id ?_); first | ((with_reducible apply Step.move); exact rfl; exact rfl) | ((with_reducible apply Step.assign); exact rfl; exact rfl) | ((with_reducible apply Step.load); exact rfl; (focus (decide +kernel)); exact rfl; (focus (exact Rd.old _ (by assumption)))) | ((with_reducible apply Step.ix1 (k := 0)); exact rfl; (focus (assumption)); exact rfl; (focus (decide +kernel)); exact rfl; (focus (omega))) | ((with_reducible apply Step.addE); exact rfl; exact rfl; (focus (assumption)); (focus (omega)); exact rfl) | ((with_reducible apply Step.mulE); exact rfl; exact rfl; (focus (assumption)); (focus (omega)); exact rfl) | ((with_reducible apply Step.u8I); exact rfl; exact un5; exact un3; (focus (omega)); exact rfl) | ((with_reducible apply Step.lss); exact rfl; exact rfl; exact rfl) | ((with_reducible apply Step.gtr); exact rfl; exact rfl; exact rfl) | ((with_reducible apply Step.len); exact rfl; (focus (assumption)); (focus (decide +kernel)); exact rfl)) | (with_reducible refine AWo.nil ?_) | ((with_reducible apply AW.seq)) | ((with_reducible apply Then.n)) | ((with_reducible apply AW.regL)) | ((with_reducible apply AW.block)) | ((with_reducible apply AW.skip)) | ((with_reducible apply AW.condT); exact rfl; (focus ((simp only [decide_eq_true_eq, decide_eq_false_iff_not, Bool.not_eq_true', Bool.not_eq_false', Bool.not_true, Bool.not_false]; first | assumption | omega)))) | ((with_reducible apply AW.condF); exact rfl; (focus ((simp only [decide_eq_true_eq, decide_eq_false_iff_not, Bool.not_eq_true', Bool.not_eq_false', Bool.not_true, Bool.not_false]; first | assumption | omega))))))
      clear rc er
      refine AW.loopW (fun q t M' => ∃ (k : Nat) (u : Value), q = n - k ∧ k ≤ n ∧ Row M' (m ++ N).length 4 u (tcs (decL r k)) k ∧ (∃ N', M' = (m ++ N) ++ N') ∧
        t = fr [(0, .slice (some ⟨a', o', none⟩) (r.length + 1) cv), (4, .pointer (some ⟨m.length + 0, 0, none⟩)), (5, .int .i64 (n : Nat)), (6, u), (26, .int .i64 (n : Nat)), (27, .int .i64 (k : Nat))]) ⟨_, _, (by repeat (first | exact trivial | (refine And.intro rfl ?_))), 0, _, rfl, Nat.zero_le _, Row.nil, ⟨_, rfl⟩, rfl⟩ ?_
      rintro q t M' ⟨k, u0, rfl, hk, hrow, ⟨N', rfl⟩, rfl⟩
      rcases Nat.lt_or_ge k n with hlt | hge
      · have hxs := sixB_len hn6 hlt
        have hds := decL_succ r k
        have hget := fun j (hj : j < 6) => sixB_get (r := r) (k := k) hj
        have hdl := decL_len r k
        have w1 : (6 : Int) * ((k : Nat) : Int) = ((6 * k : Nat) : Int) := by omega
        have w2 : (1 : Int) + ((6 * k : Nat) : Int) = ((1 + 6 * k : Nat) : Int) := by omega
        have w3 : (7 : Int) + ((6 * k : Nat) : Int) = ((7 + 6 * k : Nat) : Int) := by omega
        generalize sixB r k = xs at *
        refine AW.rebase ?_
        (repeat (first | (with_reducible refine AWo.cons ?_) | ((with_reducible refine Step.id ?_); first | ((with_reducible apply Step.move); exact rfl; exact rfl) | ((with_reducible apply Step.assign); exact rfl; exact rfl) | ((with_reducible apply Step.addE); exact rfl; exact rfl; (focus (assumption)); (focus (omega)); exact rfl) | ((with_reducible apply Step.mulE); exact rfl; exact rfl; (focus (assumption)); (focus (omega)); exact rfl) | ((with_reducible apply Step.lss); exact rfl; exact rfl; exact rfl)) | (with_reducible refine AWo.nil ?_) | ((with_reducible apply AW.seq)) | ((with_reducible apply Then.n)) | ((with_reducible apply AW.regL)) | ((with_reducible apply AW.block)) | ((with_reducible apply AW.skip)) | ((with_reducible apply AW.condT); exact rfl; (focus ((simp only [decide_eq_true_eq, decide_eq_false_iff_not, Bool.not_eq_true', Bool.not_eq_false', Bool.not_true, Bool.not_false]; first | assumption | omega))))))
        ((with_reducible apply Step.sliceS (l := 1 + 6 * k) (h := 7 + 6 * k)); exact rfl; exact (Sl.mk hcv); exact un22; exact sz5; exact rfl; exact rfl; (focus (omega)); (focus (omega)); (focus (omega)); exact rfl)
        intro wv hw1 hw2
        obtain rfl := hw2 cv rfl
        rw [show 7 + 6 * k - (1 + 6 * k) = 6 by omega]
        (repeat (first | (with_reducible refine AWo.cons ?_) | ((with_reducible refine Step.id ?_); ((with_reducible apply Step.assign); exact rfl; exact rfl)) | (with_reducible refine AWo.nil ?_) | ((with_reducible apply Then.n))))
        generalize hM0 : m ++ N ++ N' ++ [] = M0
        have hM0l : (m ++ N).length ≤ M0.length := by rw [← hM0]; simp only [List.length_append]; omega
        have hrow0 : Row M0 (m ++ N).length 4 u0 (tcs (decL r k)) k := by rw [← hM0]; exact hrow.old _
        have hwin0 : ∀ j, j < 6 → Rd M0 a' (o' + (1 + 6 * k) * 1 + j) (.int .u8 ((xs.getD j 0).toNat : Nat)) := fun j hj => by
          rw [← hM0, hget j hj, show o' + (1 + 6 * k) * 1 + j = o' + 1 + (6 * k + j) by omega]
          exact ((hwn (6 * k + j) (by omega)).old _).old _
        have haN : a' < (m ++ N).length := haM
        have hnu : NotOf u0 a' := NotOf.row hrow0 haN
        have hpre0 : ∃ N', M0 = (m ++ N) ++ N' := ⟨N', by rw [← hM0, List.append_nil]⟩
        clear hM0
        generalize hwo : o' + (1 + 6 * k) * 1 = wo at *
        generalize hwc' : cv - (1 + 6 * k) = wc at *
        have hwc : 6 ≤ wc := by omega
        have hwin : ∀ M, (∀ j, j < M0.length → j ≠ M0.length → NotOf u0 j → M[j]? = M0[j]?) → ∀ j, j < 6 → Rd M a' (wo + j) (.int .u8 ((xs.getD j 0).toNat : Nat)) := fun M hM j hj => by
          obtain ⟨b, q1, q2⟩ := hwin0 j hj
          exact ⟨b, by rw [hM a' (by omega) (by omega) hnu]; exact q1, q2⟩
        have hby : ∀ M, M0.length ≤ M.length → (∀ j, j < M0.length → j ≠ M0.length → NotOf u0 j → M[j]? = M0[j]?) → Byts M (.slice (some ⟨a', wo + 2 * 1, none⟩) (6 - 2) (wc - 2)) (xs.drop 2) := fun M hMl hM => by
          refine ⟨a', wo + 2 * 1, by rw [List.length_drop, hxs]; exact Sl.mk (by omega), by omega, fun j hj => ?_⟩
          rw [List.length_drop, hxs] at hj
          have := hwin M hM (2 + j) (by omega)
          rw [show (xs.drop 2).getD j 0 = xs.getD (2 + j) 0 by simp only [List.getD_eq_getElem?_getD, List.getElem?_drop]]
          rwa [show wo + (2 + j) = wo + 2 * 1 + j by omega] at this
        have hqm : M0.length ≤ M0.length := Nat.le_refl _
        have hbs : ∀ e ∈ [(0, Value.slice (some ⟨a', o', none⟩) (r.length + 1) cv), (4, .pointer (some ⟨m.length + 0, 0, none⟩)), (5, .int .i64 (n : Nat)), (8, .slice (some ⟨a', wo, none⟩) 6 wc), (26, .int .i64 (n : Nat)), (27, .int .i64 (k : Nat))], e.1 < 38 := fun e he => by
          simp only [List.mem_cons, List.not_mem_nil, or_false] at he
          rcases he with rfl | rfl | rfl | rfl | rfl | rfl <;> simp
        have hb6 : ∀ e ∈ [(0, Value.slice (some ⟨a', o', none⟩) (r.length + 1) cv), (4, .pointer (some ⟨m.length + 0, 0, none⟩)), (5, .int .i64 (n : Nat)), (8, .slice (some ⟨a', wo, none⟩) 6 wc), (26, .int .i64 (n : Nat)), (27, .int .i64 (k : Nat))], e.1 ≠ 6 := fun e he => by
          simp only [List.mem_cons, List.not_mem_nil, or_false] at he
          rcases he with rfl | rfl | rfl | rfl | rfl | rfl <;> simp
        refine AW.anyI fit (TI M0 (m ++ N).length M0.length 38 [(0, .slice (some ⟨a', o', none⟩) (r.length + 1) cv), (4, .pointer (some ⟨m.length + 0, 0, none⟩)), (5, .int .i64 (n : Nat)), (8, .slice (some ⟨a', wo, none⟩) 6 wc), (26, .int .i64 (n : Nat)), (27, .int .i64 (k : Nat))] (pvX a' wo wc u0 xs) u0 (tcs (decL r k)) (decX xs).c k) (by decide +kernel) (TI.start (fun e he => by
          simp only [List.mem_cons, List.not_mem_nil, or_false] at he
          rcases he with rfl | rfl | rfl | rfl | rfl | rfl <;> rfl) hrow0 (fun h => absurd h (Nat.lt_irrefl _)) (fun _ => rfl)) ?_ ?_
        · intro k o ho L t M hI hLi hdep
          rcases k with _ | _ | _ | _ | _ | _ | _ | _ | _ | _ | _ | _ | _ | _ | _ | _ | _ | _ | _ | _ | _ | _ | k
          · injection ho with ho; subst ho
            have h21 : L 21 = false := by
                cases e : L 21 with
                | false => rfl
                | true => rw [hI.c0 (hI.c21 e)] at hLi; cases hLi
            exact Step.move (hI.six hqm h21) rfl (hI.put hbs (by decide) (j := 0) rfl (by decide))
          · injection ho with ho; subst ho
            exact Step.move (hI.old (8, .slice (some ⟨a', wo, none⟩) 6 wc) (by simp)) rfl (hI.put hbs (by decide) (j := 1) rfl (by decide))
          · injection ho with ho; subst ho
            have d1 : t 39 = _ := hI.pure 1 _ rfl (hdep 1 (by decide))
            exact Step.ix1 (x := .tmp 39) (a := a') (o := wo) (n := 6) (k := 0) d1 (Sl.mk hwc) rfl el22B rfl (by decide) (hI.put hbs (by decide) (j := 2) rfl (by decide))
          · injection ho with ho; subst ho
            have d1 : t 40 = _ := hI.pure 2 _ rfl (hdep 2 (by decide))
            exact Step.load (x := .tmp 40) d1 (by decide +kernel) rfl (hwin M hI.keep 0 (by decide)) (hI.put hbs (by decide) (j := 3) rfl (by decide))
          · injection ho with ho; subst ho
            have d1 : t 41 = _ := hI.pure 3 _ rfl (hdep 3 (by decide))
            have hx := (xs.getD 0 0).toNat_lt
            exact Step.u8I (x := .tmp 41) d1 un5 un3 (by omega) rfl (hI.put hbs (by decide) (j := 4) rfl (by decide))
          · injection ho with ho; subst ho
            have d1 : t 42 = _ := hI.pure 4 _ rfl (hdep 4 (by decide))
            have hx := (xs.getD 0 0).toNat_lt
            exact Step.quo (x := .tmp 42) d1 rfl (by omega) (by decide) rfl (hI.put hbs (by decide) (j := 5) rfl (by decide))
          · injection ho with ho; subst ho
            exact Step.move (hI.old (8, .slice (some ⟨a', wo, none⟩) 6 wc) (by simp)) rfl (hI.put hbs (by decide) (j := 6) rfl (by decide))
          · injection ho with ho; subst ho
            have d1 : t 44 = _ := hI.pure 6 _ rfl (hdep 6 (by decide))
            exact Step.ix1 (x := .tmp 44) (a := a') (o := wo) (n := 6) (k := 0) d1 (Sl.mk hwc) rfl el22B rfl (by decide) (hI.put hbs (by decide) (j := 7) rfl (by decide))
          · injection ho with ho; subst ho
            have d1 : t 45 = _ := hI.pure 7 _ rfl (hdep 7 (by decide))
            exact Step.load (x := .tmp 45) d1 (by decide +kernel) rfl (hwin M hI.keep 0 (by decide)) (hI.put hbs (by decide) (j := 8) rfl (by decide))
          · injection ho with ho; subst ho
            have d1 : t 46 = _ := hI.pure 8 _ rfl (hdep 8 (by decide))
            have hx := (xs.getD 0 0).toNat_lt
            exact Step.u8I (x := .tmp 46) d1 un5 un3 (by omega) rfl (hI.put hbs (by decide) (j := 9) rfl (by decide))
          · injection ho with ho; subst ho
            have d1 : t 47 = _ := hI.pure 9 _ rfl (hdep 9 (by decide))
            have hx := (xs.getD 0 0).toNat_lt
            exact Step.rem (x := .tmp 47) d1 rfl (by omega) (by decide) rfl (hI.put hbs (by decide) (j := 10) rfl (by decide))
          · injection ho with ho; subst ho
            exact Step.move (hI.old (8, .slice (some ⟨a', wo, none⟩) 6 wc) (by simp)) rfl (hI.put hbs (by decide) (j := 11) rfl (by decide))
          · injection ho with ho; subst ho
            have d1 : t 49 = _ := hI.pure 11 _ rfl (hdep 11 (by decide))
            exact Step.ix1 (x := .tmp 49) (a := a') (o := wo) (n := 6) (k := 1) d1 (Sl.mk hwc) rfl el22B rfl (by decide) (hI.put hbs (by decide) (j := 12) rfl (by decide))
          · injection ho with ho; subst ho
            have d1 : t 50 = _ := hI.pure 12 _ rfl (hdep 12 (by decide))
            exact Step.load (x := .tmp 50) d1 (by decide +kernel) rfl (hwin M hI.keep 1 (by decide)) (hI.put hbs (by decide) (j := 13) rfl (by decide))
          · injection ho with ho; subst ho
            have d1 : t 51 = _ := hI.pure 13 _ rfl (hdep 13 (by decide))
            have hx := (xs.getD 1 0).toNat_lt
            exact Step.u8I (x := .tmp 51) d1 un5 un3 (by omega) rfl (hI.put hbs (by decide) (j := 14) rfl (by decide))
          · injection ho with ho; subst ho
            exact Step.move (hI.old (8, .slice (some ⟨a', wo, none⟩) 6 wc) (by simp)) rfl (hI.put hbs (by decide) (j := 15) rfl (by decide))
          · injection ho with ho; subst ho
            have d1 : t 53 = _ := hI.pure 15 _ rfl (hdep 15 (by decide))
            exact Step.slFrom (x := .tmp 53) (l := 2) d1 rfl rfl (by decide) hwc (by omega) un22 (by decide +kernel) rfl (hI.put hbs (by decide) (j := 16) rfl (by decide))
          · injection ho with ho; subst ho
            have d1 : t 54 = _ := hI.pure 16 _ rfl (hdep 16 (by decide))
            exact Step.callR fit (vs := [.slice (some ⟨a', wo + 2 * 1, none⟩) (6 - 2) (wc - 2)]) (by simp [evL, evo, d1]) Try.func75 rfl rfl (value_ok (hby M hI.len hI.keep) (by rw [List.length_drop, hxs]; decide)) (hI.put hbs (by decide) (j := 17) rfl (by decide))
          · injection ho with ho; subst ho
            have d1 : t 43 = _ := hI.pure 5 _ rfl (hdep 5 (by decide))
            have d2 : t 48 = _ := hI.pure 10 _ rfl (hdep 10 (by decide))
            have d3 : t 52 = _ := hI.pure 14 _ rfl (hdep 14 (by decide))
            have d4 : t 55 = _ := hI.pure 17 _ rfl (hdep 17 (by decide))
            exact Step.build (ws := [.int .i64 (decX xs).i, .int .i64 (decX xs).f, .int .i64 (decX xs).t, .int .i64 (decX xs).n]) (by simp [evL, evo, d1, d2, d3, d4, decX]) bl61 rfl (hI.put hbs (by decide) (j := 18) rfl (by decide))
          · injection ho with ho; subst ho
            have d1 : t 56 = _ := hI.pure 18 _ rfl (hdep 18 (by decide))
            exact Step.buildG (ws := [(decX xs).v]) (by simp [evL, evo, d1]) (fun _ _ => bs48) rfl (hI.setLit hbs (by decide) rfl)
          · injection ho with ho; subst ho
            have d1 : t 38 = _ := hI.pure 0 _ rfl (hdep 0 (by decide))
            obtain ⟨a, e1, e2⟩ := hI.lit (hdep 19 (by decide))
            exact Step.appRow3 (x := .tmp 38) (y := .tmp 57) d1 e1 (hI.row hLi) (Sl.mk (Nat.le_refl _)) (fun _ => e2 hLi) el48 un48 rfl rfl rfl (by omega) rfl (by have := hI.len; omega) fun u' M' g1 g2 g3 g4 g5 => hI.setApp hbs (by decide) rfl (hdep 0 (by decide)) hLi (fun h => absurd h (Nat.lt_irrefl _)) g1 g2 g3 g4 g5
          · injection ho with ho; subst ho
            obtain ⟨u, e1, e3⟩ := hI.setAsg hb6 (by decide) (hdep 20 (by decide)) rfl hqm
            exact Step.assign (x := .tmp 58) e1 rfl e3
          · simp at ho
        · intro L t M1 hall hI
          obtain ⟨u1, g1, g2, _, g4⟩ := hI.fin (hall 21 (by decide))
          have hold := hI.old
          refine InBlk.n ?_
          refine Then.n ?_
          have hpre1 := pre_keep hpre0 hI.len fun j hj => hI.keep j (by omega) (by omega) (NotOf.row hrow0 hj)
          refine AW.weak (fr_all (l := [(0, .slice (some ⟨a', o', none⟩) (r.length + 1) cv), (4, .pointer (some ⟨m.length + 0, 0, none⟩)), (5, .int .i64 (n : Nat)), (6, u1), (26, .int .i64 (n : Nat)), (27, .int .i64 (k : Nat))]) ⟨hold (0, _) (by simp), hold (4, _) (by simp), hold (5, _) (by simp), g4 (Nat.le_refl _), hold (26, _) (by simp), hold (27, _) (by simp), trivial⟩) ?_
          refine AW.rebase ?_
          (repeat (first | (with_reducible refine AWo.cons ?_) | ((with_reducible refine Step.id ?_); first | ((with_reducible apply Step.move); exact rfl; exact rfl) | ((with_reducible apply Step.add); exact rfl; exact rfl; (focus (omega)); exact rfl)) | (with_reducible refine AWo.nil ?_) | ((with_reducible apply Then.n)) | ((with_reducible apply AW.regL))))
          exact ⟨_, [(0, .slice (some ⟨a', o', none⟩) (r.length + 1) cv), (4, .pointer (some ⟨m.length + 0, 0, none⟩)), (5, .int .i64 (n : Nat)), (6, u1), (26, .int .i64 (n : Nat)), (27, .int .i64 (k + 1 : Nat))], by omega, (by repeat (first | exact trivial | (refine And.intro rfl ?_))), k + 1, u1, rfl, by omega, by rw [hds, tcs_app, List.append_nil]; simpa [tcs] using g1, by rw [List.append_nil]; exact hpre1, rfl⟩
      · obtain rfl : k = n := by omega
        generalize hM0 : m ++ N ++ N' = M0
        have hM0l : (m ++ N).length ≤ M0.length := by rw [← hM0]; simp only [List.length_append]; omega
        have hM0p : ∃ N', M0 = m ++ N' := ⟨N ++ N', by rw [← hM0, List.append_assoc]⟩
        have hX0 : RBook M0 m.length (m.length + 0) P pv := by rw [← hM0]; exact hX.old _
        have hrow0 : Row M0 (m ++ N).length 4 u0 (tcs (decL r k)) (decL r k).length := by rw [decL_len, ← hM0]; exact hrow
        have hw0 : ∀ j, j < r.length → Rd M0 a' (o' + 1 + j) (.int .u8 ((r.getD j 0).toNat : Nat)) := fun j hj => by rw [← hM0]; exact (hwn j hj).old _
        clear hM0 hrow hwn hX
        have hxl := hX0.lt
        have hpv : ∀ j, j < m.length → NotOf pv j := fun j hj => by
          obtain ⟨pc, q1, _⟩ := hX0.posts
          exact NotOf.row q1 hj
        have hpost := RPost_ok (v := u0) (l := decL r k) hX0 (fun M' hF => Row.trsKeep hX0.posts (fun b x hb => (hX0.sep hb).1 hX0.slv) hrow0 (by omega) hF) (by rw [decL_len]; omega) hsm (by omega) (by omega)
        have hpo := rpostF_ok (l := decL r k) hok
        have ham : a' < m.length := ha
        refine AW.rebase ?_
        (repeat (first | (with_reducible refine AWo.cons ?_) | ((with_reducible refine Step.id ?_); first | ((with_reducible apply Step.move); exact rfl; exact rfl) | ((with_reducible apply Step.lss); exact rfl; exact rfl; exact rfl)) | (with_reducible refine AWo.nil ?_) | ((with_reducible apply AW.seq)) | ((with_reducible apply Then.n)) | ((with_reducible apply AW.regL)) | ((with_reducible apply AW.exit)) | ((with_reducible apply InBlk.hit)) | ((with_reducible apply Then.e)) | ((with_reducible apply AW.condF); exact rfl; (focus ((simp only [decide_eq_true_eq, decide_eq_false_iff_not, Bool.not_eq_true', Bool.not_eq_false', Bool.not_true, Bool.not_false]; first | assumption | omega))))))
        ((with_reducible apply Step.callF fit); exact rfl; exact Try.func44; exact rfl; exact rfl; (focus (rw [List.append_nil]; exact hpost)))
        rintro rr M2 ⟨u, rfl, hX2, hF2, hn2, hbad⟩
        generalize rpostF P (decL r k) = pr at *
        obtain ⟨P2, pn, pe⟩ := pr
        simp only at hX2 hbad hpo hR
        have hpre2 : ∃ N, M2 = m ++ N := pre_keep hM0p hF2.1 fun j hj => hF2.2 j (by omega) (by omega) (hpv j hj)
        rw [← List.append_nil M2]
        by_cases he : pe = 0
        · subst he
          rw [if_neg (by simp)] at hR
          have hadd1 : (1 : Int) + ((6 * k : Nat) : Int) = ((1 + 6 * k : Nat) : Int) := by omega
          (repeat (first | (with_reducible refine AWo.cons ?_) | ((with_reducible refine Step.id ?_); first | ((with_reducible apply Step.move); exact rfl; exact rfl) | ((with_reducible apply Step.assign); exact rfl; exact rfl) | ((with_reducible apply Step.addE); exact rfl; exact rfl; (focus (assumption)); (focus (omega)); exact rfl) | ((with_reducible apply Step.mulE); exact rfl; exact rfl; (focus (assumption)); (focus (omega)); exact rfl) | ((with_reducible apply Step.neq); exact rfl; exact rfl; exact rfl) | ((with_reducible apply Step.extract); exact rfl; exact rfl; exact rfl)) | (with_reducible refine AWo.nil ?_) | ((with_reducible apply AW.seq)) | ((with_reducible apply Then.n)) | ((with_reducible apply AW.regL)) | ((with_reducible apply AW.skip)) | ((with_reducible apply AW.condF); exact rfl; (focus (rfl)))))
          ((with_reducible apply Step.restN (l := 1 + 6 * k)); exact rfl; exact rfl; exact rfl; (focus (omega)); exact hcv; exact un22; exact sz5; exact rfl)
          intro a2 o2 hq1 hq2
          rw [List.append_nil] at hq1 ⊢
          (repeat (first | (with_reducible refine AWo.cons ?_) | ((with_reducible refine Step.id ?_); ((with_reducible apply Step.assign); exact rfl; exact rfl)) | (with_reducible refine AWo.nil ?_) | ((with_reducible apply Then.n)) | ((with_reducible apply InBlk.n))))
          refine ⟨_, [(0, .slice (some ⟨a2, o2, none⟩) (r.length + 1 - (1 + 6 * k)) (cv - (1 + 6 * k))), (4, .pointer (some ⟨m.length + 0, 0, none⟩))], ?_, (by repeat (first | exact trivial | (refine And.intro rfl ?_))), r.drop (6 * k), P2, u, _, a2, o2, f, rfl, by omega, hR, by omega, by omega, hpo.1, ⟨by rw [hdr, show r.length + 1 - (1 + 6 * k) = r.length - 6 * k by omega]; exact Sl.mk (by omega), fun j hj => ?_⟩, ?_, fun h => (hq2 (by omega)).1, hX2.old _, ?_, rfl⟩
          · rw [hdr, List.length_cons]; omega
          · rw [hdr] at hj
            obtain ⟨rfl, rfl⟩ := hq2 (by omega)
            rw [hdg j hj]
            have := hw0 (6 * k + j) (by omega)
            obtain ⟨b, w1, w2⟩ := this
            refine ⟨b, ?_, ?_⟩
            · rw [List.getElem?_append_left (by have := hF2.1; omega), hF2.2 a2 (by omega) (by omega) (hpv a2 ham)]
              exact w1
            · rw [show o' + (1 + 6 * k) * 1 + j = o' + 1 + (6 * k + j) by omega]; exact w2
          · rw [List.length_append]
            have := hF2.1
            rcases hq1 with h | h
            · exact h
            · subst h; simp; omega
          · obtain ⟨N2, hN2⟩ := hpre2
            exact ⟨N2 ++ [none], by rw [hN2, List.append_assoc]⟩
        · rw [if_pos he] at hR
          rw [← hR]
          (repeat (first | (with_reducible refine AWo.cons ?_) | ((with_reducible refine Step.id ?_); first | ((with_reducible apply Step.move); exact rfl; exact rfl) | ((with_reducible apply Step.assign); exact rfl; exact rfl) | ((with_reducible apply Step.neq); exact rfl; exact rfl; exact rfl) | ((with_reducible apply Step.extract); exact rfl; exact rfl; exact rfl)) | (with_reducible refine AWo.nil ?_) | ((with_reducible apply AW.seq)) | ((with_reducible apply Then.n)) | ((with_reducible apply AW.regL)) | ((with_reducible apply AW.condT); exact rfl; (focus ((simp only [decide_eq_true_eq, decide_eq_false_iff_not, Bool.not_eq_true', Bool.not_eq_false', Bool.not_true, Bool.not_false]; first | assumption | omega))))))
          (refine AW.ret ?_; (repeat (first | refine Then.r ?_ | refine InBlk.r ?_)))
          obtain ⟨N2, hN2⟩ := hpre2
          exact ⟨_, rfl, ⟨N2, by rw [List.append_nil]; exact hN2⟩, rfl⟩
end Go.Proofs.Ytabdnepfcohncaa.Abs
namespace Go.Proofs.Ytabdnepfcohncaa.Abs
set_option linter.unusedSimpArgs false
set_option linter.unusedVariables false
open Go.RowKit Go.Shelf
open Go.Proofs.Ytabdnepfcohncaa.Sim
open Go.Proofs
theorem bl133 : abuild Try.prog 133 [(0, .bool true)] = some (.agg (bkc (List.replicate 256 0) (List.replicate 256 0) (.slice none 0 0)).toArray) := by kernel_rfl
set_option maxRecDepth 100000 in
theorem NewBook_ok {m : AM} : ACall Try.prog 27 #[] m (NewL (fun k => .pointer (some ⟨k, 0, none⟩)) [some { cells := bkc (List.replicate 256 0) (List.replicate 256 0) (.slice none 0 0) }] m) := by
  refine ACall.start Try.func27 rfl rfl ?_
  (repeat (first | (with_reducible refine AWo.cons ?_) | ((with_reducible refine Step.id ?_); first | ((with_reducible apply Step.assign); exact rfl; exact rfl) | ((with_reducible apply Step.box 0); exact rfl; exact rfl; (focus (kernel_rfl)); exact rfl; (focus (first | (simp only [List.nil_append, List.cons_append, List.set_cons_zero, List.set_cons_succ, iv_set, bv_set, iv_rep, bv_rep]; done) | (simp only [List.nil_append, List.cons_append, List.set_cons_zero, List.set_cons_succ, iv_set, bv_set, iv_rep, bv_rep]; rfl) | rfl))) | ((with_reducible apply Step.build); exact rfl; exact bl133; exact rfl)) | (with_reducible refine AWo.nil ?_) | ((with_reducible apply AW.seq)) | ((with_reducible apply Then.n)) | ((with_reducible apply AW.regL))))
  (refine AW.ret ?_; (repeat (first | refine Then.r ?_ | refine InBlk.r ?_)))
  exact ⟨_, rfl, rfl, rfl⟩
set_option maxRecDepth 100000 in
theorem Chunk_ok {m : AM} {q : Option Addr} {n c : Nat} : ACall Try.prog 95 #[.slice q n c, .int .i64 6] m (Ret (.func (.func 127) #[] #[.pointer (some ⟨m.length, 0, none⟩), .pointer (some ⟨m.length + 1, 0, none⟩)]) (m ++ [some { cells := [.slice q n c] }, some { cells := [.int .i64 6] }])) := by
  refine ACall.start Try.func95 rfl rfl ?_
  (repeat (first | (with_reducible refine AWo.cons ?_) | ((with_reducible refine Step.id ?_); first | ((with_reducible apply Step.assign); exact rfl; exact rfl) | ((with_reducible apply Step.load); exact rfl; (focus (decide +kernel)); exact rfl; (focus (exact Rd.new rfl rfl))) | ((with_reducible apply Step.lss); exact rfl; exact rfl; exact rfl) | ((with_reducible apply Step.fn); exact rfl; exact rfl; exact rfl) | ((with_reducible apply Step.box 0); exact rfl; exact rfl; (focus (kernel_rfl)); exact rfl; (focus (first | (simp only [List.nil_append, List.cons_append, List.set_cons_zero, List.set_cons_succ, iv_set, bv_set, iv_rep, bv_rep]; done) | (simp only [List.nil_append, List.cons_append, List.set_cons_zero, List.set_cons_succ, iv_set, bv_set, iv_rep, bv_rep]; rfl) | rfl))) | ((with_reducible apply Step.box 1); exact rfl; exact rfl; (focus (kernel_rfl)); exact rfl; (focus (first | (simp only [List.nil_append, List.cons_append, List.set_cons_zero, List.set_cons_succ, iv_set, bv_set, iv_rep, bv_rep]; done) | (simp only [List.nil_append, List.cons_append, List.set_cons_zero, List.set_cons_succ, iv_set, bv_set, iv_rep, bv_rep]; rfl) | rfl)))) | (with_reducible refine AWo.nil ?_) | ((with_reducible apply AW.seq)) | ((with_reducible apply Then.n)) | ((with_reducible apply AW.regL)) | ((with_reducible apply AW.skip)) | ((with_reducible apply AW.condF); exact rfl; (focus (rfl)))))
  (refine AW.ret ?_; (repeat (first | refine Then.r ?_ | refine InBlk.r ?_)))
  exact ⟨_, rfl, rfl, rfl⟩
theorem ze55 : zeroB Try.prog 55 = some #[.slice none 0 0] := by kernel_rfl
/-- The program's Load. -/
def loadF : Nat → List UInt8 → Bk → Option Bk
  | _, [], B => some B
  | 0, _ :: _, _ => none
  | f + 1, c :: r, B => if r.length < 6 * c.toNat then none else if (postF B (decL r c.toNat)).2.2 ≠ 0 then none else loadF f (r.drop (6 * c.toNat)) (postF B (decL r c.toNat)).1
theorem load_eq : ∀ (f : Nat) (s : List UInt8) (B : Bk), Good B → (loadF f s B).map (·.P) = rloadF f s B.P ∧ ∀ B', loadF f s B = some B' → Good B'
  | 0, [], B, h => ⟨rfl, fun B' e => by injection e with e; exact e ▸ h⟩
  | f + 1, [], B, h => ⟨rfl, fun B' e => by injection e with e; exact e ▸ h⟩
  | 0, _ :: _, B, h => ⟨rfl, fun B' e => by cases e⟩
  | f + 1, c :: r, B, h => by
    obtain ⟨e1, e2⟩ := post_eq h (decL r c.toNat)
    have hg := h.post (decL r c.toNat)
    unfold loadF rloadF
    split
    · exact ⟨rfl, fun B' e => by cases e⟩
    · rw [← e1, ← e2]
      split
      · exact ⟨rfl, fun B' e => by cases e⟩
      · exact load_eq f _ _ hg
theorem postF_len (B : Bk) (l : List Tr) : (postF B l).1.P.length ≤ B.P.length + 1 := by
  unfold postF
  split
  · exact Nat.le_succ _
  · split
    · exact Nat.le_succ _
    · split
      · exact Nat.le_succ _
      · simp
/-- What the rounds over the chunks read. -/
def rdChunk (k : Nat) (u : Value) (i o : Nat) (v : Value) : Prop := (i = k ∧ o = 0 ∧ v = u) ∨ (i = k + 1 ∧ o = 0 ∧ v = .int .i64 6)
theorem World.drew_grown (W : World) : W.grownBy W.drew none := ⟨rfl, rfl, rfl, Nat.le_refl _, fun _ _ _ => rfl⟩
theorem chunk_stops {base : Nat} {R : Pl} {M : AM} {w : World} {k a o n c : Nat} {q : Option Addr} {p1 p2 p : Sim.Place} (hm : MRep base R M w) (hk1 : R k = some p1) (hk2 : R (k + 1) = some p2) (ha : R a = some p) (hn : n ≤ 100000) (hnc : 6 * n ≤ c)
    (hq : 0 < n → q = some ⟨a, o, none⟩) (h1 : Rd M k 0 (.slice q (6 * n) c)) (h2 : Rd M (k + 1) 0 (.int .i64 6)) :
    SeqStopsK Fence.wide 1 Try.prog 127 #[.pointer (some ⟨p1.block, p1.off + 0, none⟩), .pointer (some ⟨p2.block, p2.off + 0, none⟩)] (fun x : {q : Nat // q < n} => #[.slice (some ⟨p.block, p.off + (o + 6 * x.val), none⟩) 6 6]) (KpF (RdF R (rdChunk k (.slice q (6 * n) c)))) (· = chunkX n) (fun _ => True) n w := by
  intro l J Jx W hW hJ hJx hY h0'
  have cell : ∀ (i : Nat) (v : Value) (pi : Sim.Place), Rd M i 0 v → R i = some pi → ∃ v', w.cell? ⟨pi.block, pi.off + 0, none⟩ = some v' ∧ Rel R v v' := fun i v pi ⟨blk, r1, r2⟩ hpi => by
    obtain ⟨x, q1, q2⟩ := (hm.of r1 hpi).cell r2
    exact ⟨x, q1, q2⟩
  obtain ⟨v1, c1, r1⟩ := cell k _ p1 h1 hk1
  obtain ⟨v2, c2, r2⟩ := cell (k + 1) _ p2 h2 hk2
  cases r2
  have up : ∀ a v, w.cell? a = some v → W.cell? a = some v := fun a v h => by
    have hlt := World.block_lt_of_cell? w a h
    exact (hW.cell (p := a) hlt).trans h
  by_cases h0 : 0 < n
  · obtain rfl := hq h0
    obtain ⟨c', hc', rfl⟩ : ∃ c', 6 * n ≤ c' ∧ v1 = .slice (some ⟨p.block, p.off + o, none⟩) (6 * n) c' := by
      cases r1 with
      | slice _ _ _ _ pp hpp hle =>
        rw [ha] at hpp; injection hpp with hpp; subst hpp
        exact ⟨_, by omega, rfl⟩
    refine chunk1_in l p1.block (p1.off + 0) p2.block (p2.off + 0) p.block (p.off + o) n c' hc' (by omega) (KpF (RdF R (rdChunk k (.slice (some ⟨a, o, none⟩) (6 * n) c)))) J Jx (fun pre x W1 h3 h4 => ?_) (fun pre W1 h3 => hJ pre W1 _ none h3 (World.drew_grown W1) (fun r e => by cases e)) (fun A B hk ⟨k1, k2⟩ => ⟨?_, ?_⟩) W ⟨up _ _ c1, up _ _ c2⟩ h0'
    · have := hY pre x W1 h3 h4
      simp only [← Nat.add_assoc] at this
      exact this
    · exact hk _ _ ⟨k, 0, _, p1, .inl ⟨rfl, rfl, rfl⟩, hk1, rfl, r1⟩ k1
    · exact hk _ _ ⟨k + 1, 0, _, p2, .inr ⟨rfl, rfl, rfl⟩, hk2, rfl, .int _ _⟩ k2
  · obtain rfl : n = 0 := by omega
    obtain ⟨a', c', rfl⟩ : ∃ a' c', v1 = .slice a' 0 c' := by
      cases r1 <;> exact ⟨_, _, rfl⟩
    exact (chunk0_in l p1.block (p1.off + 0) p2.block (p2.off + 0) a' c' J W (up _ _ c1) h0').mono fun e W' ⟨hv, hj⟩ => ⟨hv, .inl ⟨_, rfl, by simpa [chunkX] using hj⟩⟩
/-- What the rounds keep: M1 is the memory at the start, q the block of the row. -/
structure JL (M1 : AM) (q : Nat) (l : List Tr) (M' : AM) : Prop where
  len : M1.length ≤ M'.length
  keep : ∀ j, j < M1.length → j ≠ q → M'[j]? = M1[j]?
  map : ∀ (i : Nat) (b : Blk), M'[i]? = some (some b) → isMapK b.kind = true → M1[i]? = some (some b)
  row : ∃ u, M'[q]? = some (some { cells := [u] }) ∧ Row M' M1.length 4 u (tcs l) l.length
set_option maxHeartbeats 8000000 in
set_option maxRecDepth 100000 in
theorem Load_ok {m : AM} {v : Value} {a o : Nat} {s : List UInt8} (h : BytsAt m v a o s) (ha : a < m.length) (hro : 0 < s.length → ∃ b, m[a]? = some (some b) ∧ b.kind = .ro) (hlen : s.length ≤ 100000) :
    ACall Try.prog 34 #[v] m (fun r M => (∃ N, M = m ++ N) ∧ match loadF s.length s Bk.new with
      | none => r = .tuple #[.pointer none, .int .i64 6]
      | some B => ∃ bk pv, r = .tuple #[.pointer (some ⟨bk, 0, none⟩), .int .i64 0] ∧ BookAt M m.length bk B pv) := by
  refine ACall.start Try.func34 rfl rfl ?_
  (repeat (first | (with_reducible refine AWo.cons ?_) | ((with_reducible refine Step.id ?_); first | ((with_reducible apply Step.assign); exact rfl; exact rfl) | ((with_reducible apply Step.callL fit (k := 0)); exact rfl; exact rfl; exact Try.func27; exact rfl; exact rfl; exact (NewBook_ok); (focus (first | (simp only [List.nil_append, List.cons_append, List.set_cons_zero, List.set_cons_succ, iv_set, bv_set, iv_rep, bv_rep]; done) | (simp only [List.nil_append, List.cons_append, List.set_cons_zero, List.set_cons_succ, iv_set, bv_set, iv_rep, bv_rep]; rfl) | rfl)))) | (with_reducible refine AWo.nil ?_) | ((with_reducible apply AW.seq)) | ((with_reducible apply Then.n)) | ((with_reducible apply AW.regL)) | ((with_reducible apply AW.block))))
  refine AW.loopW (fun q t M => ∃ (r : List UInt8) (B : Bk) (pv v' : Value) (a' o' f : Nat), q = r.length ∧ r.length ≤ f ∧ loadF f r B = loadF s.length s Bk.new ∧ r.length ≤ s.length ∧ B.P.length + r.length ≤ s.length ∧ Good B ∧
    BytsAt M v' a' o' r ∧ a' < M.length ∧ (0 < r.length → a' = a) ∧ BookAt M m.length (m.length + 0) B pv ∧ (∃ N, M = m ++ N) ∧
    t = fr [(0, v'), (4, .pointer (some ⟨m.length + 0, 0, none⟩))])
    ⟨_, _, (by repeat (first | exact trivial | (refine And.intro rfl ?_))), s, Bk.new, .slice none 0 0, v, a, o, s.length, rfl, Nat.le_refl _, rfl, Nat.le_refl _, by rw [show Bk.new.P.length = 0 from rfl]; omega, Good.new, h.keep (List.getElem?_append_left ha), by rw [List.length_append]; omega, fun _ => rfl,
      ⟨by omega, by rw [get_app]; rfl, Good.new.lH, Good.new.lC, ⟨[], Row.nil, fun k hk => absurd hk (Nat.not_lt_zero _)⟩⟩, ⟨_, rfl⟩, rfl⟩ ?_
  rintro q t M ⟨r, B, pv, v', a', o', f, rfl, hf, hR, hrl, hPl, hG, hB, haM, haa, hX, ⟨N, rfl⟩, rfl⟩
  obtain ⟨h1, h2⟩ := id hB
  rcases r with _ | ⟨c, r⟩
  · have e : loadF f [] B = some B := by cases f <;> rfl
    rw [e] at hR
    rw [← hR]
    refine AW.rebase ?_
    (repeat (first | (with_reducible refine AWo.cons ?_) | ((with_reducible refine Step.id ?_); first | ((with_reducible apply Step.move); exact rfl; exact rfl) | ((with_reducible apply Step.assign); exact rfl; exact rfl) | ((with_reducible apply Step.gtr); exact rfl; exact rfl; exact rfl) | ((with_reducible apply Step.len); exact rfl; (focus (assumption)); (focus (decide +kernel)); exact rfl)) | (with_reducible refine AWo.nil ?_) | ((with_reducible apply AW.seq)) | ((with_reducible apply Then.n)) | ((with_reducible apply AW.regL)) | ((with_reducible apply AW.exit)) | ((with_reducible apply InBlk.hit)) | ((with_reducible apply Then.e)) | ((with_reducible apply AW.condF); exact rfl; (focus (rfl)))))
    (refine AW.ret ?_; (repeat (first | refine Then.r ?_ | refine InBlk.r ?_)))
    exact ⟨_, rfl, ⟨N, by rw [List.append_nil]⟩, _, pv, rfl, by rw [List.append_nil]; exact hX⟩
  · obtain ⟨cv, hcv, rfl⟩ : ∃ cv, r.length + 1 ≤ cv ∧ v' = .slice (some ⟨a', o', none⟩) (r.length + 1) cv := by
      rcases h1 with ⟨_, e⟩ | ⟨cv, q1, q2⟩ | ⟨e, _⟩
      · simp at e
      · exact ⟨cv, q1, q2⟩
      · simp at e
    rw [List.length_cons] at h1
    obtain rfl := haa (by simp)
    obtain ⟨f, rfl⟩ : ∃ f', f = f' + 1 := ⟨f - 1, by simp at hf; omega⟩
    have rc := h2 0 (by simp)
    have hcb := c.toNat_lt
    simp only [List.getD_cons_zero] at rc
    rw [List.length_cons] at hf hrl hPl
    obtain ⟨bro, hb1, hb2⟩ := hro (by omega)
    have er : loadF (f + 1) (c :: r) B = if r.length < 6 * c.toNat then none else if (postF B (decL r c.toNat)).2.2 ≠ 0 then none else loadF f (r.drop (6 * c.toNat)) (postF B (decL r c.toNat)).1 := rfl
    rw [er] at hR
    refine AW.rebase ?_
    have hmulc : (6 : Int) * ((c.toNat : Nat) : Int) = ((6 * c.toNat : Nat) : Int) := by omega
    have hwn : ∀ k, k < r.length → Rd (m ++ N) a' (o' + 1 * 1 + k) (.int .u8 ((r.getD k 0).toNat : Nat)) := fun k hk => by
      have := h2 (k + 1) (by simp; omega)
      simp only [List.getD_cons_succ] at this
      rwa [show o' + (k + 1) = o' + 1 * 1 + k by omega] at this
    have hdr : (r.drop (6 * c.toNat)).length = r.length - 6 * c.toNat := List.length_drop
    have hdg : ∀ k, k < r.length - 6 * c.toNat → (r.drop (6 * c.toNat)).getD k 0 = r.getD (6 * c.toNat + k) 0 := fun k hk => by
      simp only [List.getD_eq_getElem?_getD, List.getElem?_drop]
    generalize c.toNat = n at *
    clear er
    (repeat (first | (with_reducible refine AWo.cons ?_) | ((with_reducible refine Step.id ?_); first | ((with_reducible apply Step.move); exact rfl; exact rfl) | ((with_reducible apply Step.assign); exact rfl; exact rfl) | ((with_reducible apply Step.load); exact rfl; (focus (decide +kernel)); exact rfl; (focus (exact Rd.old _ (by assumption)))) | ((with_reducible apply Step.ix1 (k := 0)); exact rfl; (focus (assumption)); exact rfl; (focus (decide +kernel)); exact rfl; (focus (omega))) | ((with_reducible apply Step.u8I); exact rfl; exact un5; exact un3; (focus (omega)); exact rfl) | ((with_reducible apply Step.gtr); exact rfl; exact rfl; exact rfl) | ((with_reducible apply Step.len); exact rfl; (focus (assumption)); (focus (decide +kernel)); exact rfl)) | (with_reducible refine AWo.nil ?_) | ((with_reducible apply AW.seq)) | ((with_reducible apply Then.n)) | ((with_reducible apply AW.regL)) | ((with_reducible apply AW.block)) | ((with_reducible apply AW.skip)) | ((with_reducible apply AW.condT); exact rfl; (focus ((simp only [decide_eq_true_eq, decide_eq_false_iff_not, Bool.not_eq_true', Bool.not_eq_false', Bool.not_true, Bool.not_false]; first | assumption | omega))))))
    ((with_reducible apply Step.restN (l := 1)); exact rfl; exact rfl; exact rfl; (focus (omega)); exact hcv; exact un22; exact sz5; exact rfl)
    intro a1 o1 hq1 hq2
    rw [List.append_nil] at hq1 ⊢
    rw [show r.length + 1 - 1 = r.length by omega]
    have ha1 : 0 < r.length → a1 = a' ∧ o1 = o' + 1 * 1 := fun h => hq2 (by omega)
    clear hq2
    have hcv1 : r.length ≤ cv - 1 := by omega
    generalize cv - 1 = c1v at *
    have ha1M : a1 < (m ++ N ++ [none]).length := by
      rw [List.length_append]
      rcases hq1 with h | h
      · exact h
      · subst h; simp; omega
    have hb1' : (m ++ N ++ [none])[a']? = some (some bro) := by rw [List.append_assoc, List.getElem?_append_left ha]; exact hb1
    have hX' := hX.old [none]
    have hwn' := fun k hk => (hwn k hk).old [none]
    have hpre' : ∃ N', m ++ N ++ [none] = m ++ N' := ⟨N ++ [none], List.append_assoc _ _ _⟩
    generalize hMM : m ++ N ++ [none] = MM at *
    clear hMM hwn rc hX hq1
    rw [← List.append_nil MM]
    by_cases c1 : r.length < 6 * n
    · rw [if_pos c1] at hR
      rw [← hR]
      (repeat (first | (with_reducible refine AWo.cons ?_) | ((with_reducible refine Step.id ?_); first | ((with_reducible apply Step.move); exact rfl; exact rfl) | ((with_reducible apply Step.assign); exact rfl; exact rfl) | ((with_reducible apply Step.mulE); exact rfl; exact rfl; (focus (assumption)); (focus (omega)); exact rfl) | ((with_reducible apply Step.lss); exact rfl; exact rfl; exact rfl) | ((with_reducible apply Step.len); exact rfl; (focus (exact Sl.mk (by omega))); (focus (decide +kernel)); exact rfl)) | (with_reducible refine AWo.nil ?_) | ((with_reducible apply AW.seq)) | ((with_reducible apply Then.n)) | ((with_reducible apply AW.regL)) | ((with_reducible apply AW.condT); exact rfl; (focus ((simp only [decide_eq_true_eq, decide_eq_false_iff_not, Bool.not_eq_true', Bool.not_eq_false', Bool.not_true, Bool.not_false]; first | assumption | omega))))))
      (refine AW.ret ?_; (repeat (first | refine Then.r ?_ | refine InBlk.r ?_)))
      obtain ⟨N', hN'⟩ := hpre'
      exact ⟨_, rfl, ⟨N', by rw [List.append_nil]; exact hN'⟩, rfl⟩
    · rw [if_neg c1] at hR
      have hn6 : 6 * n ≤ r.length := by omega
      (repeat (first | (with_reducible refine AWo.cons ?_) | ((with_reducible refine Step.id ?_); first | ((with_reducible apply Step.move); exact rfl; exact rfl) | ((with_reducible apply Step.assign); exact rfl; exact rfl) | ((with_reducible apply Step.mulE); exact rfl; exact rfl; (focus (assumption)); (focus (omega)); exact rfl) | ((with_reducible apply Step.slTo); exact rfl; exact rfl; (focus (assumption)); (focus (omega)); exact un22; exact sz5; exact rfl) | ((with_reducible apply Step.lss); exact rfl; exact rfl; exact rfl) | ((with_reducible apply Step.len); exact rfl; (focus (exact Sl.mk (by omega))); (focus (decide +kernel)); exact rfl) | ((with_reducible apply Step.callM fit); exact rfl; exact Try.func95; exact rfl; exact rfl; exact (Chunk_ok)) | ((with_reducible apply Step.alloc 0); exact rfl; exact ze55; exact rfl; (focus (first | (simp only [List.nil_append, List.cons_append, List.set_cons_zero, List.set_cons_succ, iv_set, bv_set, iv_rep, bv_rep]; done) | (simp only [List.nil_append, List.cons_append, List.set_cons_zero, List.set_cons_succ, iv_set, bv_set, iv_rep, bv_rep]; rfl) | rfl)))) | (with_reducible refine AWo.nil ?_) | ((with_reducible apply AW.seq)) | ((with_reducible apply Then.n)) | ((with_reducible apply AW.regL)) | ((with_reducible apply AW.block)) | ((with_reducible apply AW.skip)) | ((with_reducible apply AW.condF); exact rfl; (focus ((simp only [decide_eq_true_eq, decide_eq_false_iff_not, Bool.not_eq_true', Bool.not_eq_false', Bool.not_true, Bool.not_false]; first | assumption | omega))))))
      have hqb : ∀ j, j < MM.length → j ≠ MM.length + 0 := fun j hj => by omega
      obtain ⟨M1, hM1⟩ : ∃ M1 : AM, M1 = (MM ++ ([some { cells := [.slice none 0 0] }] : AM)) ++ ([some { cells := [.slice (some ⟨a1, o1, none⟩) (6 * n) c1v] }, some { cells := [.int .i64 6] }] : AM) := ⟨_, rfl⟩
      have hM1l : M1.length = MM.length + 3 := by rw [hM1]; simp only [List.length_append, List.length_cons, List.length_nil]
      have hM1q : M1[MM.length + 0]? = some (some { cells := [.slice none 0 0] }) := by rw [hM1, List.append_assoc, get_app]; rfl
      have hM1a : Rd M1 (MM ++ ([some { cells := [.slice none 0 0] }] : AM)).length 0 (.slice (some ⟨a1, o1, none⟩) (6 * n) c1v) := by rw [hM1]; exact Rd.new (k := 0) rfl rfl
      have hM1b : Rd M1 ((MM ++ ([some { cells := [.slice none 0 0] }] : AM)).length + 1) 0 (.int .i64 6) := by rw [hM1]; exact Rd.new (k := 1) rfl rfl
      have hM1p : ∀ j, j < MM.length → M1[j]? = MM[j]? := fun j hj => by rw [hM1, List.append_assoc, List.getElem?_append_left hj]
      have hKl : (MM ++ ([some { cells := [.slice none 0 0] }] : AM)).length = MM.length + 1 := by simp
      have haMM : a' < MM.length := (List.getElem?_eq_some_iff.1 hb1').1
      rw [← hM1]
      clear hM1
      have hXm : (chunkX n).map (fun x => decX (sixB r x.val)) = decL r n := by
        apply List.ext_getElem
        · simp [chunkX_len, decL]
        · intro i h1 h2
          simp [chunkX, decL]
      refine AW.rangeW fit (Asg.one rfl) (chunkX n) (fun x => o1 + 6 * x.val) (fun _ => 6) (fun x => by8 (sixB r x.val)) a' (fun pre M' => JL M1 (MM.length + 0) (pre.map fun x => decX (sixB r x.val)) M') (rdChunk (MM ++ ([some { cells := [.slice none 0 0] }] : AM)).length (.slice (some ⟨a1, o1, none⟩) (6 * n) c1v)) rfl Try.func127 rfl (by kernel_rfl) rfl ?_ ?_ ?_ ?_ ?_ ?_ ?_
      · exact ⟨Nat.le_refl _, fun _ _ _ => rfl, fun i b hi _ => hi, _, hM1q, Row.nil⟩
      · intro pre M' hJ i b hi hb
        exact ⟨b, hJ.map i b hi hb⟩
      · rintro pre M' hJ i o2 v2 (⟨rfl, rfl, rfl⟩ | ⟨rfl, rfl, rfl⟩)
        · obtain ⟨b, w1, w2⟩ := hM1a
          exact ⟨b, by rw [hJ.keep _ (by omega) (by omega)]; exact w1, w2⟩
        · obtain ⟨b, w1, w2⟩ := hM1b
          exact ⟨b, by rw [hJ.keep _ (by omega) (by omega)]; exact w1, w2⟩
      · intro pre M' hJ x
        refine ⟨bro, by rw [hJ.keep a' (by omega) (hqb _ haMM), hM1p a' haMM]; exact hb1', hb2, fun j v2 hj => ?_⟩
        have hx6 := sixB_len hn6 x.property
        have hj6 := (List.getElem?_eq_some_iff.1 hj).1
        rw [by8_len, hx6] at hj6
        rw [by8_get (by rw [hx6]; exact hj6)] at hj
        injection hj with hj
        subst hj
        obtain ⟨b, w1, w2⟩ := hwn' (6 * x.val + j) (by have := x.property; omega)
        rw [hb1'] at w1
        injection w1 with w1; injection w1 with w1; subst w1
        have hxp := x.property
        rw [(ha1 (by omega)).2, show o' + 1 * 1 + 6 * x.val + j = o' + 1 * 1 + (6 * x.val + j) by omega, w2]
        have e := sixB_get (r := r) (k := x.val) hj6
        rw [← e, List.getD_eq_getElem?_getD, List.getElem?_eq_getElem (by rw [hx6]; exact hj6)]
        rfl
      · intro base R w lb' hbs hm hlb
        obtain ⟨p1, p2, hp1, hp2, rfl⟩ : ∃ p1 p2, R (MM ++ ([some { cells := [.slice none 0 0] }] : AM)).length = some p1 ∧ R ((MM ++ ([some { cells := [.slice none 0 0] }] : AM)).length + 1) = some p2 ∧ lb' = #[.pointer (some ⟨p1.block, p1.off + 0, none⟩), .pointer (some ⟨p2.block, p2.off + 0, none⟩)] := by
          have e1 := hlb.1
          have e2 := hlb.2 0 (by simp)
          have e4 := hlb.2 1 (by simp)
          have e3 : lb' = #[lb'.getD 0 undef, lb'.getD 1 undef] := by
            apply Array.ext
            · simpa using e1.symm
            · intro k q1 q2
              have : k = 0 ∨ k = 1 := by simp at q2; omega
              rcases this with rfl | rfl <;> simp [q1]
          rw [e3]
          generalize lb'.getD 0 undef = y1 at e2
          generalize lb'.getD 1 undef = y2 at e4
          simp only [Array.getD_eq_getD_getElem?, List.getElem?_toArray, List.getElem?_cons_zero, List.getElem?_cons_succ, Option.getD_some] at e2 e4
          cases e2 with
          | ptr _ _ p1 hp1 =>
            cases e4 with
            | ptr _ _ p2 hp2 => exact ⟨p1, p2, hp1, hp2, rfl⟩
        obtain ⟨p, hp, _⟩ := hm.rep a' bro (by rw [hM1p a' haMM]; exact hb1')
        refine ⟨p, hp, ?_⟩
        rw [chunkX_len]
        exact chunk_stops hm hp1 hp2 hp (by omega) (by omega) (fun h => by rw [(ha1 (by omega)).1]) hM1a hM1b
      · intro pre x M' hJ hlen'
        change AW _ _ _ _ (put (put _ 30 (.slice (some ⟨M'.length, 0, none⟩) 6 6)) 7 (.slice (some ⟨M'.length, 0, none⟩) 6 6)) _ _
        refine AW.block ?_
        rw [chunkX_len] at hlen'
        obtain ⟨u0, hcu, hrow⟩ := hJ.row
        have hxs := sixB_len hn6 x.property
        have hJl := hJ.len
        have hds : ((pre ++ [x]).map fun x => decX (sixB r x.val)) = (pre.map fun x => decX (sixB r x.val)) ++ [decX (sixB r x.val)] := by rw [List.map_append]; rfl
        have hpl : (pre.map fun x => decX (sixB r x.val)).length = pre.length := List.length_map ..
        generalize (pre.map fun x => decX (sixB r x.val)) = ls at *
        generalize sixB r x.val = xs at *
        obtain ⟨M0, hM0⟩ : ∃ M0 : AM, M0 = M' ++ ([some { cells := by8 xs, kind := .ro }] : AM) := ⟨_, rfl⟩
        rw [← hM0]
        have hM0l : M0.length = M'.length + 1 := by rw [hM0]; simp
        have hrow0 : Row M0 M1.length 4 u0 (tcs ls) ls.length := by rw [hM0]; exact hrow.old _
        have hc0 : M0[MM.length + 0]? = some (some { cells := [u0] }) := by rw [hM0]; exact get_old _ hcu
        have hwin0 : ∀ j, j < 6 → Rd M0 M'.length (0 + j) (.int .u8 ((xs.getD j 0).toNat : Nat)) := fun j hj => by
          rw [hM0]
          refine ⟨{ cells := by8 xs, kind := .ro }, by simp, ?_⟩
          rw [Nat.zero_add, by8_get (by rw [hxs]; exact hj), List.getD_eq_getElem?_getD, List.getElem?_eq_getElem (by rw [hxs]; exact hj)]
          rfl
        have hmap0 : ∀ (i : Nat) (b : Blk), M0[i]? = some (some b) → isMapK b.kind = true → M1[i]? = some (some b) := fun i b hi hb => by
          rw [hM0] at hi
          rcases Nat.lt_or_ge i M'.length with hl | hl
          · rw [List.getElem?_append_left hl] at hi; exact hJ.map i b hi hb
          · rw [List.getElem?_append_right hl] at hi
            rcases Nat.eq_zero_or_pos (i - M'.length) with e | e
            · rw [e] at hi
              simp at hi
              subst hi
              cases hb
            · rw [List.getElem?_eq_none (by simp; omega)] at hi; cases hi
        have hkeep0 : ∀ j, j < M1.length → j ≠ MM.length + 0 → M0[j]? = M1[j]? := fun j hj hne => by rw [hM0, List.getElem?_append_left (by omega)]; exact hJ.keep j hj hne
        have hnw : NotOf u0 M'.length := hrow.far (Nat.le_refl _)
        have hnq : NotOf u0 (MM.length + 0) := NotOf.row hrow (by omega)
        have hqm : MM.length + 0 < M0.length := by omega
        clear hM0 hcu
        have hwc : 6 ≤ 6 := Nat.le_refl _
        have hwin : ∀ M, (∀ j, j < M0.length → j ≠ MM.length + 0 → NotOf u0 j → M[j]? = M0[j]?) → ∀ j, j < 6 → Rd M M'.length (0 + j) (.int .u8 ((xs.getD j 0).toNat : Nat)) := fun M hM j hj => by
          obtain ⟨b, q1, q2⟩ := hwin0 j hj
          exact ⟨b, by rw [hM M'.length (by omega) (by omega) hnw]; exact q1, q2⟩
        have hby : ∀ M, M0.length ≤ M.length → (∀ j, j < M0.length → j ≠ MM.length + 0 → NotOf u0 j → M[j]? = M0[j]?) → Byts M (.slice (some ⟨M'.length, 0 + 2 * 1, none⟩) (6 - 2) (6 - 2)) (xs.drop 2) := fun M hMl hM => by
          refine ⟨M'.length, 0 + 2 * 1, by rw [List.length_drop, hxs]; exact Sl.mk (by omega), by omega, fun j hj => ?_⟩
          rw [List.length_drop, hxs] at hj
          have := hwin M hM (2 + j) (by omega)
          rw [show (xs.drop 2).getD j 0 = xs.getD (2 + j) 0 by simp only [List.getD_eq_getElem?_getD, List.getElem?_drop]]
          rwa [show 0 + (2 + j) = 0 + 2 * 1 + j by omega] at this
        have hbs : ∀ e ∈ [(6, Value.pointer (some ⟨MM.length + 0, 0, none⟩)), (7, .slice (some ⟨M'.length, 0, none⟩) 6 6)], e.1 < 31 := fun e he => by
          simp only [List.mem_cons, List.not_mem_nil, or_false] at he
          rcases he with rfl | rfl <;> simp
        refine AW.anyI fit (TI M0 M1.length (MM.length + 0) 31 [(6, Value.pointer (some ⟨MM.length + 0, 0, none⟩)), (7, .slice (some ⟨M'.length, 0, none⟩) 6 6)] (pvX M'.length 0 6 u0 xs) u0 (tcs ls) (decX xs).c ls.length) (by decide +kernel) (TI.start (fun e he => by
          simp only [List.mem_cons, List.not_mem_nil, or_false] at he
          rcases he with rfl | rfl <;> rfl) hrow0 (fun _ => hc0) (fun h => by omega)) ?_ ?_
        · intro k o ho L t M hI hLi hdep
          rcases k with _ | _ | _ | _ | _ | _ | _ | _ | _ | _ | _ | _ | _ | _ | _ | _ | _ | _ | _ | _ | _ | _ | k
          · injection ho with ho; subst ho
            have h21 : L 21 = false := by
                cases e : L 21 with
                | false => rfl
                | true => rw [hI.c0 (hI.c21 e)] at hLi; cases hLi
            exact Step.load (hI.old (6, .pointer (some ⟨MM.length + 0, 0, none⟩)) (by simp)) (by decide +kernel) rfl ⟨_, hI.cell hqm h21, rfl⟩ (hI.put hbs (by decide) (j := 0) rfl (by decide))
          · injection ho with ho; subst ho
            exact Step.move (hI.old (7, .slice (some ⟨M'.length, 0, none⟩) 6 6) (by simp)) rfl (hI.put hbs (by decide) (j := 1) rfl (by decide))
          · injection ho with ho; subst ho
            have d1 : t 32 = _ := hI.pure 1 _ rfl (hdep 1 (by decide))
            exact Step.ix1 (x := .tmp 32) (a := M'.length) (o := 0) (n := 6) (k := 0) d1 (Sl.mk hwc) rfl el22B rfl (by decide) (hI.put hbs (by decide) (j := 2) rfl (by decide))
          · injection ho with ho; subst ho
            have d1 : t 33 = _ := hI.pure 2 _ rfl (hdep 2 (by decide))
            exact Step.load (x := .tmp 33) d1 (by decide +kernel) rfl (hwin M hI.keep 0 (by decide)) (hI.put hbs (by decide) (j := 3) rfl (by decide))
          · injection ho with ho; subst ho
            have d1 : t 34 = _ := hI.pure 3 _ rfl (hdep 3 (by decide))
            have hx := (xs.getD 0 0).toNat_lt
            exact Step.u8I (x := .tmp 34) d1 un5 un3 (by omega) rfl (hI.put hbs (by decide) (j := 4) rfl (by decide))
          · injection ho with ho; subst ho
            have d1 : t 35 = _ := hI.pure 4 _ rfl (hdep 4 (by decide))
            have hx := (xs.getD 0 0).toNat_lt
            exact Step.quo (x := .tmp 35) d1 rfl (by omega) (by decide) rfl (hI.put hbs (by decide) (j := 5) rfl (by decide))
          · injection ho with ho; subst ho
            exact Step.move (hI.old (7, .slice (some ⟨M'.length, 0, none⟩) 6 6) (by simp)) rfl (hI.put hbs (by decide) (j := 6) rfl (by decide))
          · injection ho with ho; subst ho
            have d1 : t 37 = _ := hI.pure 6 _ rfl (hdep 6 (by decide))
            exact Step.ix1 (x := .tmp 37) (a := M'.length) (o := 0) (n := 6) (k := 0) d1 (Sl.mk hwc) rfl el22B rfl (by decide) (hI.put hbs (by decide) (j := 7) rfl (by decide))
          · injection ho with ho; subst ho
            have d1 : t 38 = _ := hI.pure 7 _ rfl (hdep 7 (by decide))
            exact Step.load (x := .tmp 38) d1 (by decide +kernel) rfl (hwin M hI.keep 0 (by decide)) (hI.put hbs (by decide) (j := 8) rfl (by decide))
          · injection ho with ho; subst ho
            have d1 : t 39 = _ := hI.pure 8 _ rfl (hdep 8 (by decide))
            have hx := (xs.getD 0 0).toNat_lt
            exact Step.u8I (x := .tmp 39) d1 un5 un3 (by omega) rfl (hI.put hbs (by decide) (j := 9) rfl (by decide))
          · injection ho with ho; subst ho
            have d1 : t 40 = _ := hI.pure 9 _ rfl (hdep 9 (by decide))
            have hx := (xs.getD 0 0).toNat_lt
            exact Step.rem (x := .tmp 40) d1 rfl (by omega) (by decide) rfl (hI.put hbs (by decide) (j := 10) rfl (by decide))
          · injection ho with ho; subst ho
            exact Step.move (hI.old (7, .slice (some ⟨M'.length, 0, none⟩) 6 6) (by simp)) rfl (hI.put hbs (by decide) (j := 11) rfl (by decide))
          · injection ho with ho; subst ho
            have d1 : t 42 = _ := hI.pure 11 _ rfl (hdep 11 (by decide))
            exact Step.ix1 (x := .tmp 42) (a := M'.length) (o := 0) (n := 6) (k := 1) d1 (Sl.mk hwc) rfl el22B rfl (by decide) (hI.put hbs (by decide) (j := 12) rfl (by decide))
          · injection ho with ho; subst ho
            have d1 : t 43 = _ := hI.pure 12 _ rfl (hdep 12 (by decide))
            exact Step.load (x := .tmp 43) d1 (by decide +kernel) rfl (hwin M hI.keep 1 (by decide)) (hI.put hbs (by decide) (j := 13) rfl (by decide))
          · injection ho with ho; subst ho
            have d1 : t 44 = _ := hI.pure 13 _ rfl (hdep 13 (by decide))
            have hx := (xs.getD 1 0).toNat_lt
            exact Step.u8I (x := .tmp 44) d1 un5 un3 (by omega) rfl (hI.put hbs (by decide) (j := 14) rfl (by decide))
          · injection ho with ho; subst ho
            exact Step.move (hI.old (7, .slice (some ⟨M'.length, 0, none⟩) 6 6) (by simp)) rfl (hI.put hbs (by decide) (j := 15) rfl (by decide))
          · injection ho with ho; subst ho
            have d1 : t 46 = _ := hI.pure 15 _ rfl (hdep 15 (by decide))
            exact Step.slFrom (x := .tmp 46) (l := 2) d1 rfl rfl (by decide) hwc (by omega) un22 (by decide +kernel) rfl (hI.put hbs (by decide) (j := 16) rfl (by decide))
          · injection ho with ho; subst ho
            have d1 : t 47 = _ := hI.pure 16 _ rfl (hdep 16 (by decide))
            exact Step.callR fit (vs := [.slice (some ⟨M'.length, 0 + 2 * 1, none⟩) (6 - 2) (6 - 2)]) (by simp [evL, evo, d1]) Try.func71 rfl rfl (get_ok (hby M hI.len hI.keep) (by rw [List.length_drop, hxs]; decide)) (hI.put hbs (by decide) (j := 17) rfl (by decide))
          · injection ho with ho; subst ho
            have d1 : t 36 = _ := hI.pure 5 _ rfl (hdep 5 (by decide))
            have d2 : t 41 = _ := hI.pure 10 _ rfl (hdep 10 (by decide))
            have d3 : t 45 = _ := hI.pure 14 _ rfl (hdep 14 (by decide))
            have d4 : t 48 = _ := hI.pure 17 _ rfl (hdep 17 (by decide))
            exact Step.build (ws := [.int .i64 (decX xs).i, .int .i64 (decX xs).f, .int .i64 (decX xs).t, .int .i64 (decX xs).n]) (by simp [evL, evo, d1, d2, d3, d4, decX]) bl63 rfl (hI.put hbs (by decide) (j := 18) rfl (by decide))
          · injection ho with ho; subst ho
            have d1 : t 49 = _ := hI.pure 18 _ rfl (hdep 18 (by decide))
            exact Step.buildG (ws := [(decX xs).v]) (by simp [evL, evo, d1]) (fun _ _ => bs55) rfl (hI.setLit hbs (by decide) rfl)
          · injection ho with ho; subst ho
            have d1 : t 31 = _ := hI.pure 0 _ rfl (hdep 0 (by decide))
            obtain ⟨a, e1, e2⟩ := hI.lit (hdep 19 (by decide))
            exact Step.appRow3 (x := .tmp 31) (y := .tmp 50) d1 e1 (hI.row hLi) (Sl.mk (Nat.le_refl _)) (fun _ => e2 hLi) el55 un55 rfl rfl rfl (by omega) rfl (by have := hI.len; omega) fun u' M' g1 g2 g3 g4 g5 => hI.setApp hbs (by decide) rfl (hdep 0 (by decide)) hLi (fun _ => hnq) g1 g2 g3 g4 g5
          · injection ho with ho; subst ho
            obtain ⟨u, e1, e2, e3⟩ := hI.setSto (hdep 20 (by decide)) rfl hqm hnq
            exact Step.storeAt (x := .tmp 6) (y := .tmp 51) (hI.old (6, .pointer (some ⟨MM.length + 0, 0, none⟩)) (by simp)) e1 (hI.cell hqm hLi) (by decide +kernel) rfl Nat.zero_lt_one e2.one.2 e2.one.1 e3
          · simp at ho
        · intro L t M2 hall hI
          obtain ⟨u1, g1, g2, g3, _⟩ := hI.fin (hall 21 (by decide))
          refine InBlk.n ?_
          refine ⟨rfl, ?_⟩
          rw [hds]
          refine ⟨by have := hI.len; omega, fun j hj hne => by rw [hI.keep j (by omega) hne (NotOf.row hrow0 hj)]; exact hkeep0 j hj hne, fun i b hi hb => hmap0 i b (hI.map i b hi hb) hb, u1, g3 hqm, ?_⟩
          rw [tcs_app, List.length_append]
          simpa [tcs] using g1
      · intro M' hJ
        rw [hXm] at hJ
        refine InBlk.n ?_
        refine Then.n ?_
        obtain ⟨u0, hcu, hrow⟩ := hJ.row
        have hJl := hJ.len
        have hpm : ∃ T, M' = MM ++ T := pre_keep (m0 := MM) (M := MM) ⟨[], (List.append_nil _).symm⟩ (by omega) fun j hj => by rw [hJ.keep j (by omega) (hqb j hj), hM1p j hj]
        obtain ⟨T, hT⟩ := hpm
        have hX2 : BookAt (M' ++ [none]) m.length (m.length + 0) B pv := by rw [hT]; exact (hX'.old T).old _
        have hrow2 : Row (M' ++ [none]) M1.length 4 u0 (tcs (decL r n)) (decL r n).length := hrow.old _
        have hwn2 : ∀ j, j < r.length → Rd (M' ++ [none]) a' (o' + 1 * 1 + j) (.int .u8 ((r.getD j 0).toNat : Nat)) := fun j hj => by rw [hT]; exact ((hwn' j hj).old T).old _
        have hxl := hX2.lt
        have hpv : ∀ j, j < m.length → NotOf pv j := fun j hj => by
          obtain ⟨pc, q1, _⟩ := hX2.row
          exact NotOf.row q1 hj
        have hlT : ∀ M'', Fr (M' ++ [none]) M'' (m.length + 0) pv → Trs M'' u0 (decL r n) := fun M'' hF => Row.trsKeep hX2.row (fun b x hb => (hX2.sep hb).1) hrow2 (by omega) hF
        have hdl := decL_len r n
        have hpre3 : ∃ N, M' ++ [none] = m ++ N := by
          obtain ⟨N', hN'⟩ := hpre'
          exact ⟨N' ++ (T ++ [none]), by rw [hT, hN']; simp only [List.append_assoc]⟩
        have hl3 : MM.length + 1 ≤ (M' ++ [none]).length := by rw [List.length_append]; simp; omega
        refine AW.rebase ?_
        (repeat (first | (with_reducible refine AWo.cons ?_) | ((with_reducible refine Step.id ?_); first | ((with_reducible apply Step.move); exact rfl; exact rfl) | ((with_reducible apply Step.mulE); exact rfl; exact rfl; (focus (assumption)); (focus (omega)); exact rfl)) | ((with_reducible apply AW.seq)) | ((with_reducible apply AW.regL))))
        ((with_reducible apply Step.restN (l := 6 * n)); exact rfl; exact rfl; exact rfl; (focus (omega)); exact hcv1; exact un22; exact sz5; exact rfl)
        intro a2 o2 hq1 hq2
        rw [List.append_nil] at hq1 ⊢
        have rq : Rd (M' ++ [none]) (MM.length + 0) 0 u0 := Rd.old _ ⟨_, hcu, rfl⟩
        have ha2 : a2 < (M' ++ [none]).length := by
          rw [List.length_append]
          rcases hq1 with h | h
          · exact h
          · subst h; simp; omega
        clear hq1
        generalize M' ++ [none] = M3 at *
        rw [← List.append_nil M3]
        (repeat (first | (with_reducible refine AWo.cons ?_) | ((with_reducible refine Step.id ?_); first | ((with_reducible apply Step.move); exact rfl; exact rfl) | ((with_reducible apply Step.assign); exact rfl; exact rfl) | ((with_reducible apply Step.load); exact rfl; (focus (decide +kernel)); exact rfl; (focus (exact rq.old _)))) | (with_reducible refine AWo.nil ?_) | ((with_reducible apply AW.seq)) | ((with_reducible apply Then.n)) | ((with_reducible apply AW.regL))))
        by_cases he : (postF B (decL r n)).2.2 = 0
        · rw [if_neg (by simpa using he)] at hR
          ((with_reducible apply Step.callF fit); exact rfl; exact Try.func28; exact rfl; exact rfl; (focus (rw [List.append_nil]; exact Post_good hX2 hlT hG.bd (by omega) he)))
          rintro rr M4 ⟨u, rfl, hX4, hF4, hn4⟩
          have hpre4 : ∃ N, M4 = m ++ N := pre_keep hpre3 hF4.1 fun j hj => hF4.2 j (by omega) (by omega) (hpv j hj)
          have hPl2 := postF_len B (decL r n)
          have hG2 := hG.post (decL r n)
          generalize (postF B (decL r n)).1 = B2 at *
          rw [← List.append_nil M4]
          (repeat (first | (with_reducible refine AWo.cons ?_) | ((with_reducible refine Step.id ?_); first | ((with_reducible apply Step.move); exact rfl; exact rfl) | ((with_reducible apply Step.assign); exact rfl; exact rfl) | ((with_reducible apply Step.neq); exact rfl; exact rfl; exact rfl) | ((with_reducible apply Step.extract); exact rfl; exact rfl; exact rfl)) | (with_reducible refine AWo.nil ?_) | ((with_reducible apply AW.seq)) | ((with_reducible apply Then.n)) | ((with_reducible apply AW.regL)) | ((with_reducible apply InBlk.n)) | ((with_reducible apply AW.skip)) | ((with_reducible apply AW.condF); exact rfl; (focus (rfl)))))
          refine ⟨_, [(0, .slice (some ⟨a2, o2, none⟩) (r.length - 6 * n) (c1v - 6 * n)), (4, .pointer (some ⟨m.length + 0, 0, none⟩))], ?_, (by repeat (first | exact trivial | (refine And.intro rfl ?_))), r.drop (6 * n), B2, u, _, a2, o2, f, rfl, by omega, hR, by omega, by omega, hG2, ⟨by rw [hdr]; exact Sl.mk (by omega), fun j hj => ?_⟩, ?_, fun h => ?_, by rw [List.append_nil]; exact hX4, by rw [List.append_nil]; exact hpre4, rfl⟩
          · rw [hdr, List.length_cons]; omega
          · rw [hdr] at hj
            obtain ⟨rfl, rfl⟩ := hq2 (by omega)
            obtain ⟨rfl, rfl⟩ := ha1 (by omega)
            rw [hdg j hj, List.append_nil]
            obtain ⟨b, w1, w2⟩ := hwn2 (6 * n + j) (by omega)
            refine ⟨b, by rw [hF4.2 a2 (by omega) (by omega) (hpv a2 ha)]; exact w1, ?_⟩
            rw [show o' + 1 * 1 + 6 * n * 1 + j = o' + 1 * 1 + (6 * n + j) by omega]
            exact w2
          · rw [List.append_nil]; have := hF4.1; omega
          · rw [hdr] at h
            rw [(hq2 (by omega)).1, (ha1 (by omega)).1]
        · rw [if_pos he] at hR
          rw [← hR]
          ((with_reducible apply Step.callR fit); exact rfl; exact Try.func28; exact rfl; exact rfl; (focus (rw [List.append_nil]; exact Post_bad hX2 (hlT _ (Fr.refl _ _ _)) hG.bd (by omega) he)))
          (repeat (first | (with_reducible refine AWo.cons ?_) | ((with_reducible refine Step.id ?_); first | ((with_reducible apply Step.move); exact rfl; exact rfl) | ((with_reducible apply Step.assign); exact rfl; exact rfl) | ((with_reducible apply Step.neq); exact rfl; exact rfl; exact rfl) | ((with_reducible apply Step.extract); exact rfl; exact rfl; exact rfl)) | (with_reducible refine AWo.nil ?_) | ((with_reducible apply AW.seq)) | ((with_reducible apply Then.n)) | ((with_reducible apply AW.regL)) | ((with_reducible apply AW.condT); exact rfl; (focus ((simp only [decide_eq_true_eq, decide_eq_false_iff_not, Bool.not_eq_true', Bool.not_eq_false', Bool.not_true, Bool.not_false]; first | assumption | omega))))))
          (refine AW.ret ?_; (repeat (first | refine Then.r ?_ | refine InBlk.r ?_)))
          obtain ⟨N2, hN2⟩ := hpre3
          exact ⟨_, rfl, ⟨N2, by rw [List.append_nil]; exact hN2⟩, rfl⟩
end Go.Proofs.Ytabdnepfcohncaa.Abs
namespace Go.Proofs.Ytabdnepfcohncaa.Abs
set_option linter.unusedSimpArgs false
set_option linter.unusedVariables false
open Go.RowKit
open Go.Proofs.Ytabdnepfcohncaa.Sim
open Go.Proofs
set_option maxHeartbeats 8000000 in
set_option maxRecDepth 100000 in
theorem counts_ok {m : AM} {b0 b1 bk xk : Nat} {B : Bk} {pv px : Value} (h : BookAt m b0 bk B pv) (hx : RBook m b1 xk B.P px) (hg : Good B) (hpl : B.P.length ≤ 1000000) :
    ACall Try.prog 37 #[.pointer (some ⟨bk, 0, none⟩), .pointer (some ⟨xk, 0, none⟩)] m (Ret (.bool true) m) := by
  have hfl := flat_len hg.ok
  have h1 := fun T p i => Held_ok p i (h.old T)
  have h2 := fun T p i => RHeld_ok p i (hx.old T) hg.small (by omega) hpl
  have h3 := fun T p i => Changed_ok p i (h.old T)
  have h4 := fun T p i => RChanged_ok p i (hx.old T) (by omega) hpl
  simp only [held_eq hg, chg_eq hg] at h1 h3
  have hbl := h.lt
  have hxl := hx.lt
  refine ACall.start Try.func37 rfl rfl ?_
  (repeat (first | (with_reducible refine AWo.cons ?_) | ((with_reducible refine Step.id ?_); ((with_reducible apply Step.assign); exact rfl; exact rfl)) | (with_reducible refine AWo.nil ?_) | ((with_reducible apply AW.seq)) | ((with_reducible apply Then.n)) | ((with_reducible apply AW.regL)) | ((with_reducible apply AW.block))))
  refine AW.loopT (fun n t L => ∃ z : Int, n = (17 - z).toNat ∧ -1 ≤ z ∧ z ≤ 17 ∧ L = [] ∧
    t = [(0, .pointer (some ⟨bk, 0, none⟩)), (1, .pointer (some ⟨xk, 0, none⟩)), (5, .int .i64 z)]) ⟨_, _, _, (Or.inl ⟨rfl, (by repeat (first | exact trivial | (refine And.intro rfl ?_)))⟩), -1, rfl, by omega, by omega, rfl, rfl⟩ ?_
  rintro n t L ⟨p, rfl, p1, p2, rfl, rfl⟩
  by_cases c0 : p ≤ 16
  · (repeat (first | (with_reducible refine AWo.cons ?_) | ((with_reducible refine Step.id ?_); first | ((with_reducible apply Step.move); exact rfl; exact rfl) | ((with_reducible apply Step.assign); exact rfl; exact rfl) | ((with_reducible apply Step.leq); exact rfl; exact rfl; exact rfl)) | (with_reducible refine AWo.nil ?_) | ((with_reducible apply AW.seq)) | ((with_reducible apply Then.n)) | ((with_reducible apply AW.regL)) | ((with_reducible apply AW.block)) | ((with_reducible apply AW.skip)) | ((with_reducible apply AW.condT); exact rfl; (focus ((simp only [decide_eq_true_eq, decide_eq_false_iff_not, Bool.not_eq_true', Bool.not_eq_false', Bool.not_true, Bool.not_false]; first | assumption | omega))))))
    refine AW.loopT (fun n t L => ∃ z : Int, n = (17 - z).toNat ∧ -1 ≤ z ∧ z ≤ 17 ∧ L = [] ∧
      t = [(0, .pointer (some ⟨bk, 0, none⟩)), (1, .pointer (some ⟨xk, 0, none⟩)), (5, .int .i64 p), (6, .int .i64 z)]) ⟨_, _, _, (Or.inl ⟨rfl, (by repeat (first | exact trivial | (refine And.intro rfl ?_)))⟩), -1, rfl, by omega, by omega, rfl, rfl⟩ ?_
    rintro n t L ⟨i, rfl, i1, i2, rfl, rfl⟩
    by_cases c1 : i ≤ 16
    · by_cases d1 : 4 < i
      · by_cases d2 : i < 15
        · (repeat (first | (with_reducible refine AWo.cons ?_) | ((with_reducible refine Step.id ?_); first | ((with_reducible apply Step.gdU); exact rfl; exact rfl) | ((with_reducible apply Step.gdT); exact rfl; exact rfl; (focus ((simp only [decide_eq_true_eq, decide_eq_false_iff_not, Bool.not_eq_true', Bool.not_eq_false', Bool.not_true, Bool.not_false]; first | assumption | omega)))) | ((with_reducible apply Step.gdF); exact rfl; exact rfl; (focus ((simp only [decide_eq_true_eq, decide_eq_false_iff_not, Bool.not_eq_true', Bool.not_eq_false', Bool.not_true, Bool.not_false]; first | assumption | omega)))) | ((with_reducible apply Step.move); exact rfl; exact rfl) | ((with_reducible apply Step.assign); exact rfl; exact rfl) | ((with_reducible apply Step.add); exact rfl; exact rfl; (focus (omega)); exact rfl) | ((with_reducible apply Step.lss); exact rfl; exact rfl; exact rfl) | ((with_reducible apply Step.leq); exact rfl; exact rfl; exact rfl) | ((with_reducible apply Step.gtr); exact rfl; exact rfl; exact rfl) | ((with_reducible apply Step.pickT); exact rfl; exact rfl; exact rfl; exact rfl; (focus ((simp only [decide_eq_true_eq, decide_eq_false_iff_not, Bool.not_eq_true', Bool.not_eq_false', Bool.not_true, Bool.not_false]; first | assumption | omega))))) | (with_reducible refine AWo.nil ?_) | ((with_reducible apply AW.seq)) | ((with_reducible apply Then.n)) | ((with_reducible apply AW.regL)) | ((with_reducible apply AW.block)) | ((with_reducible apply AW.exit)) | ((with_reducible apply InBlk.hit)) | ((with_reducible apply Then.e)) | ((with_reducible apply AW.skip)) | ((with_reducible apply AW.condT); exact rfl; (focus (first | rfl | (simp only [decide_eq_true_eq, decide_eq_false_iff_not, Bool.not_eq_true', Bool.not_eq_false', Bool.not_true, Bool.not_false]; first | assumption | omega))))))
          exact ⟨_, _, _, by omega, (Or.inl ⟨rfl, (by repeat (first | exact trivial | (refine And.intro rfl ?_)))⟩), i + 1, rfl, by omega, by omega, rfl, rfl⟩
        · by_cases d3 : 7 < p
          · by_cases d4 : p < 15
            · (repeat (first | (with_reducible refine AWo.cons ?_) | ((with_reducible refine Step.id ?_); first | ((with_reducible apply Step.gdT); exact rfl; exact rfl; (focus ((simp only [decide_eq_true_eq, decide_eq_false_iff_not, Bool.not_eq_true', Bool.not_eq_false', Bool.not_true, Bool.not_false]; first | assumption | omega)))) | ((with_reducible apply Step.move); exact rfl; exact rfl) | ((with_reducible apply Step.assign); exact rfl; exact rfl) | ((with_reducible apply Step.add); exact rfl; exact rfl; (focus (omega)); exact rfl) | ((with_reducible apply Step.lss); exact rfl; exact rfl; exact rfl) | ((with_reducible apply Step.leq); exact rfl; exact rfl; exact rfl) | ((with_reducible apply Step.gtr); exact rfl; exact rfl; exact rfl) | ((with_reducible apply Step.pickT); exact rfl; exact rfl; exact rfl; exact rfl; (focus ((simp only [decide_eq_true_eq, decide_eq_false_iff_not, Bool.not_eq_true', Bool.not_eq_false', Bool.not_true, Bool.not_false]; first | assumption | omega)))) | ((with_reducible apply Step.pickF); exact rfl; exact rfl; exact rfl; exact rfl; (focus ((simp only [decide_eq_true_eq, decide_eq_false_iff_not, Bool.not_eq_true', Bool.not_eq_false', Bool.not_true, Bool.not_false]; first | assumption | omega))))) | (with_reducible refine AWo.nil ?_) | ((with_reducible apply AW.seq)) | ((with_reducible apply Then.n)) | ((with_reducible apply AW.regL)) | ((with_reducible apply AW.block)) | ((with_reducible apply AW.exit)) | ((with_reducible apply InBlk.hit)) | ((with_reducible apply Then.e)) | ((with_reducible apply AW.skip)) | ((with_reducible apply AW.condT); exact rfl; (focus ((simp only [decide_eq_true_eq, decide_eq_false_iff_not, Bool.not_eq_true', Bool.not_eq_false', Bool.not_true, Bool.not_false]; first | assumption | omega))))))
              exact ⟨_, _, _, by omega, (Or.inl ⟨rfl, (by repeat (first | exact trivial | (refine And.intro rfl ?_)))⟩), i + 1, rfl, by omega, by omega, rfl, rfl⟩
            · (repeat (first | (with_reducible refine AWo.cons ?_) | ((with_reducible refine Step.id ?_); first | ((with_reducible apply Step.gdT); exact rfl; exact rfl; (focus (first | (simp only [decide_eq_true_eq, decide_eq_false_iff_not, Bool.not_eq_true', Bool.not_eq_false', Bool.not_true, Bool.not_false]; first | assumption | omega) | (simp; done)))) | ((with_reducible apply Step.move); exact rfl; exact rfl) | ((with_reducible apply Step.assign); exact rfl; exact rfl) | ((with_reducible apply Step.add); exact rfl; exact rfl; (focus (omega)); exact rfl) | ((with_reducible apply Step.lss); exact rfl; exact rfl; exact rfl) | ((with_reducible apply Step.leq); exact rfl; exact rfl; exact rfl) | ((with_reducible apply Step.gtr); exact rfl; exact rfl; exact rfl) | ((with_reducible apply Step.neq); exact rfl; exact rfl; exact rfl) | ((with_reducible apply Step.extract); exact rfl; exact rfl; exact rfl) | ((with_reducible apply Step.pickT); exact rfl; exact rfl; exact rfl; exact rfl; (focus ((simp only [decide_eq_true_eq, decide_eq_false_iff_not, Bool.not_eq_true', Bool.not_eq_false', Bool.not_true, Bool.not_false]; first | assumption | omega)))) | ((with_reducible apply Step.pickF); exact rfl; exact rfl; exact rfl; exact rfl; (focus (first | (simp only [decide_eq_true_eq, decide_eq_false_iff_not, Bool.not_eq_true', Bool.not_eq_false', Bool.not_true, Bool.not_false]; first | assumption | omega) | (simp; done)))) | ((with_reducible apply Step.callR fit); exact rfl; exact Try.func32; exact rfl; exact rfl; exact (h1 _ _ _)) | ((with_reducible apply Step.callR fit); exact rfl; exact Try.func97; exact rfl; exact rfl; exact (h2 _ _ _)) | ((with_reducible apply Step.callR fit); exact rfl; exact Try.func98; exact rfl; exact rfl; exact (h3 _ _ _)) | ((with_reducible apply Step.callR fit); exact rfl; exact Try.func99; exact rfl; exact rfl; exact (h4 _ _ _))) | (with_reducible refine AWo.nil ?_) | ((with_reducible apply AW.seq)) | ((with_reducible apply Then.n)) | ((with_reducible apply AW.regL)) | ((with_reducible apply AW.block)) | ((with_reducible apply InBlk.n)) | ((with_reducible apply AW.skip)) | ((with_reducible apply AW.condT); exact rfl; (focus ((simp only [decide_eq_true_eq, decide_eq_false_iff_not, Bool.not_eq_true', Bool.not_eq_false', Bool.not_true, Bool.not_false]; first | assumption | omega)))) | ((with_reducible apply AW.condF); exact rfl; (focus (first | (simp only [decide_eq_true_eq, decide_eq_false_iff_not, Bool.not_eq_true', Bool.not_eq_false', Bool.not_true, Bool.not_false]; first | assumption | omega) | (simp; done))))))
              exact ⟨_, _, _, by omega, (Or.inl ⟨rfl, (by repeat (first | exact trivial | (refine And.intro rfl ?_)))⟩), i + 1, rfl, by omega, by omega, rfl, rfl⟩
          · (repeat (first | (with_reducible refine AWo.cons ?_) | ((with_reducible refine Step.id ?_); first | ((with_reducible apply Step.gdT); exact rfl; exact rfl; (focus (first | (simp only [decide_eq_true_eq, decide_eq_false_iff_not, Bool.not_eq_true', Bool.not_eq_false', Bool.not_true, Bool.not_false]; first | assumption | omega) | (simp; done)))) | ((with_reducible apply Step.gdF); exact rfl; exact rfl; (focus ((simp only [decide_eq_true_eq, decide_eq_false_iff_not, Bool.not_eq_true', Bool.not_eq_false', Bool.not_true, Bool.not_false]; first | assumption | omega)))) | ((with_reducible apply Step.move); exact rfl; exact rfl) | ((with_reducible apply Step.assign); exact rfl; exact rfl) | ((with_reducible apply Step.add); exact rfl; exact rfl; (focus (omega)); exact rfl) | ((with_reducible apply Step.lss); exact rfl; exact rfl; exact rfl) | ((with_reducible apply Step.leq); exact rfl; exact rfl; exact rfl) | ((with_reducible apply Step.gtr); exact rfl; exact rfl; exact rfl) | ((with_reducible apply Step.neq); exact rfl; exact rfl; exact rfl) | ((with_reducible apply Step.extract); exact rfl; exact rfl; exact rfl) | ((with_reducible apply Step.pickT); exact rfl; exact rfl; exact rfl; exact rfl; (focus ((simp only [decide_eq_true_eq, decide_eq_false_iff_not, Bool.not_eq_true', Bool.not_eq_false', Bool.not_true, Bool.not_false]; first | assumption | omega)))) | ((with_reducible apply Step.pickF); exact rfl; exact rfl; exact rfl; exact rfl; (focus (first | (simp only [decide_eq_true_eq, decide_eq_false_iff_not, Bool.not_eq_true', Bool.not_eq_false', Bool.not_true, Bool.not_false]; first | assumption | omega) | (simp; done)))) | ((with_reducible apply Step.callR fit); exact rfl; exact Try.func32; exact rfl; exact rfl; exact (h1 _ _ _)) | ((with_reducible apply Step.callR fit); exact rfl; exact Try.func97; exact rfl; exact rfl; exact (h2 _ _ _)) | ((with_reducible apply Step.callR fit); exact rfl; exact Try.func98; exact rfl; exact rfl; exact (h3 _ _ _)) | ((with_reducible apply Step.callR fit); exact rfl; exact Try.func99; exact rfl; exact rfl; exact (h4 _ _ _))) | (with_reducible refine AWo.nil ?_) | ((with_reducible apply AW.seq)) | ((with_reducible apply Then.n)) | ((with_reducible apply AW.regL)) | ((with_reducible apply AW.block)) | ((with_reducible apply InBlk.n)) | ((with_reducible apply AW.skip)) | ((with_reducible apply AW.condT); exact rfl; (focus ((simp only [decide_eq_true_eq, decide_eq_false_iff_not, Bool.not_eq_true', Bool.not_eq_false', Bool.not_true, Bool.not_false]; first | assumption | omega)))) | ((with_reducible apply AW.condF); exact rfl; (focus (first | rfl | (simp; done))))))
            exact ⟨_, _, _, by omega, (Or.inl ⟨rfl, (by repeat (first | exact trivial | (refine And.intro rfl ?_)))⟩), i + 1, rfl, by omega, by omega, rfl, rfl⟩
      · by_cases d3 : 7 < p
        · by_cases d4 : p < 15
          · (repeat (first | (with_reducible refine AWo.cons ?_) | ((with_reducible refine Step.id ?_); first | ((with_reducible apply Step.gdT); exact rfl; exact rfl; (focus (first | rfl | (simp only [decide_eq_true_eq, decide_eq_false_iff_not, Bool.not_eq_true', Bool.not_eq_false', Bool.not_true, Bool.not_false]; first | assumption | omega)))) | ((with_reducible apply Step.gdF); exact rfl; exact rfl; (focus ((simp only [decide_eq_true_eq, decide_eq_false_iff_not, Bool.not_eq_true', Bool.not_eq_false', Bool.not_true, Bool.not_false]; first | assumption | omega)))) | ((with_reducible apply Step.move); exact rfl; exact rfl) | ((with_reducible apply Step.assign); exact rfl; exact rfl) | ((with_reducible apply Step.add); exact rfl; exact rfl; (focus (omega)); exact rfl) | ((with_reducible apply Step.lss); exact rfl; exact rfl; exact rfl) | ((with_reducible apply Step.leq); exact rfl; exact rfl; exact rfl) | ((with_reducible apply Step.gtr); exact rfl; exact rfl; exact rfl) | ((with_reducible apply Step.pickT); exact rfl; exact rfl; exact rfl; exact rfl; (focus ((simp only [decide_eq_true_eq, decide_eq_false_iff_not, Bool.not_eq_true', Bool.not_eq_false', Bool.not_true, Bool.not_false]; first | assumption | omega)))) | ((with_reducible apply Step.pickF); exact rfl; exact rfl; exact rfl; exact rfl; (focus (first | rfl | (simp only [decide_eq_true_eq, decide_eq_false_iff_not, Bool.not_eq_true', Bool.not_eq_false', Bool.not_true, Bool.not_false]; first | assumption | omega))))) | (with_reducible refine AWo.nil ?_) | ((with_reducible apply AW.seq)) | ((with_reducible apply Then.n)) | ((with_reducible apply AW.regL)) | ((with_reducible apply AW.block)) | ((with_reducible apply AW.exit)) | ((with_reducible apply InBlk.hit)) | ((with_reducible apply Then.e)) | ((with_reducible apply AW.skip)) | ((with_reducible apply AW.condT); exact rfl; (focus ((simp only [decide_eq_true_eq, decide_eq_false_iff_not, Bool.not_eq_true', Bool.not_eq_false', Bool.not_true, Bool.not_false]; first | assumption | omega))))))
            exact ⟨_, _, _, by omega, (Or.inl ⟨rfl, (by repeat (first | exact trivial | (refine And.intro rfl ?_)))⟩), i + 1, rfl, by omega, by omega, rfl, rfl⟩
          · (repeat (first | (with_reducible refine AWo.cons ?_) | ((with_reducible refine Step.id ?_); first | ((with_reducible apply Step.gdT); exact rfl; exact rfl; (focus (first | rfl | (simp only [decide_eq_true_eq, decide_eq_false_iff_not, Bool.not_eq_true', Bool.not_eq_false', Bool.not_true, Bool.not_false]; first | assumption | omega) | (simp; done)))) | ((with_reducible apply Step.gdF); exact rfl; exact rfl; (focus ((simp only [decide_eq_true_eq, decide_eq_false_iff_not, Bool.not_eq_true', Bool.not_eq_false', Bool.not_true, Bool.not_false]; first | assumption | omega)))) | ((with_reducible apply Step.move); exact rfl; exact rfl) | ((with_reducible apply Step.assign); exact rfl; exact rfl) | ((with_reducible apply Step.add); exact rfl; exact rfl; (focus (omega)); exact rfl) | ((with_reducible apply Step.lss); exact rfl; exact rfl; exact rfl) | ((with_reducible apply Step.leq); exact rfl; exact rfl; exact rfl) | ((with_reducible apply Step.gtr); exact rfl; exact rfl; exact rfl) | ((with_reducible apply Step.neq); exact rfl; exact rfl; exact rfl) | ((with_reducible apply Step.extract); exact rfl; exact rfl; exact rfl) | ((with_reducible apply Step.pickT); exact rfl; exact rfl; exact rfl; exact rfl; (focus ((simp only [decide_eq_true_eq, decide_eq_false_iff_not, Bool.not_eq_true', Bool.not_eq_false', Bool.not_true, Bool.not_false]; first | assumption | omega)))) | ((with_reducible apply Step.pickF); exact rfl; exact rfl; exact rfl; exact rfl; (focus (first | rfl | (simp only [decide_eq_true_eq, decide_eq_false_iff_not, Bool.not_eq_true', Bool.not_eq_false', Bool.not_true, Bool.not_false]; first | assumption | omega) | (simp; done)))) | ((with_reducible apply Step.callR fit); exact rfl; exact Try.func32; exact rfl; exact rfl; exact (h1 _ _ _)) | ((with_reducible apply Step.callR fit); exact rfl; exact Try.func97; exact rfl; exact rfl; exact (h2 _ _ _)) | ((with_reducible apply Step.callR fit); exact rfl; exact Try.func98; exact rfl; exact rfl; exact (h3 _ _ _)) | ((with_reducible apply Step.callR fit); exact rfl; exact Try.func99; exact rfl; exact rfl; exact (h4 _ _ _))) | (with_reducible refine AWo.nil ?_) | ((with_reducible apply AW.seq)) | ((with_reducible apply Then.n)) | ((with_reducible apply AW.regL)) | ((with_reducible apply AW.block)) | ((with_reducible apply InBlk.n)) | ((with_reducible apply AW.skip)) | ((with_reducible apply AW.condT); exact rfl; (focus ((simp only [decide_eq_true_eq, decide_eq_false_iff_not, Bool.not_eq_true', Bool.not_eq_false', Bool.not_true, Bool.not_false]; first | assumption | omega)))) | ((with_reducible apply AW.condF); exact rfl; (focus (first | (simp only [decide_eq_true_eq, decide_eq_false_iff_not, Bool.not_eq_true', Bool.not_eq_false', Bool.not_true, Bool.not_false]; first | assumption | omega) | (simp; done))))))
            exact ⟨_, _, _, by omega, (Or.inl ⟨rfl, (by repeat (first | exact trivial | (refine And.intro rfl ?_)))⟩), i + 1, rfl, by omega, by omega, rfl, rfl⟩
        · (repeat (first | (with_reducible refine AWo.cons ?_) | ((with_reducible refine Step.id ?_); first | ((with_reducible apply Step.gdT); exact rfl; exact rfl; (focus (first | rfl | (simp; done)))) | ((with_reducible apply Step.gdF); exact rfl; exact rfl; (focus ((simp only [decide_eq_true_eq, decide_eq_false_iff_not, Bool.not_eq_true', Bool.not_eq_false', Bool.not_true, Bool.not_false]; first | assumption | omega)))) | ((with_reducible apply Step.move); exact rfl; exact rfl) | ((with_reducible apply Step.assign); exact rfl; exact rfl) | ((with_reducible apply Step.add); exact rfl; exact rfl; (focus (omega)); exact rfl) | ((with_reducible apply Step.leq); exact rfl; exact rfl; exact rfl) | ((with_reducible apply Step.gtr); exact rfl; exact rfl; exact rfl) | ((with_reducible apply Step.neq); exact rfl; exact rfl; exact rfl) | ((with_reducible apply Step.extract); exact rfl; exact rfl; exact rfl) | ((with_reducible apply Step.pickF); exact rfl; exact rfl; exact rfl; exact rfl; (focus (first | rfl | (simp only [decide_eq_true_eq, decide_eq_false_iff_not, Bool.not_eq_true', Bool.not_eq_false', Bool.not_true, Bool.not_false]; first | assumption | omega) | (simp; done)))) | ((with_reducible apply Step.callR fit); exact rfl; exact Try.func32; exact rfl; exact rfl; exact (h1 _ _ _)) | ((with_reducible apply Step.callR fit); exact rfl; exact Try.func97; exact rfl; exact rfl; exact (h2 _ _ _)) | ((with_reducible apply Step.callR fit); exact rfl; exact Try.func98; exact rfl; exact rfl; exact (h3 _ _ _)) | ((with_reducible apply Step.callR fit); exact rfl; exact Try.func99; exact rfl; exact rfl; exact (h4 _ _ _))) | (with_reducible refine AWo.nil ?_) | ((with_reducible apply AW.seq)) | ((with_reducible apply Then.n)) | ((with_reducible apply AW.regL)) | ((with_reducible apply AW.block)) | ((with_reducible apply InBlk.n)) | ((with_reducible apply AW.skip)) | ((with_reducible apply AW.condT); exact rfl; (focus ((simp only [decide_eq_true_eq, decide_eq_false_iff_not, Bool.not_eq_true', Bool.not_eq_false', Bool.not_true, Bool.not_false]; first | assumption | omega)))) | ((with_reducible apply AW.condF); exact rfl; (focus (first | rfl | (simp; done))))))
          exact ⟨_, _, _, by omega, (Or.inl ⟨rfl, (by repeat (first | exact trivial | (refine And.intro rfl ?_)))⟩), i + 1, rfl, by omega, by omega, rfl, rfl⟩
    · (repeat (first | (with_reducible refine AWo.cons ?_) | ((with_reducible refine Step.id ?_); first | ((with_reducible apply Step.move); exact rfl; exact rfl) | ((with_reducible apply Step.assign); exact rfl; exact rfl) | ((with_reducible apply Step.add); exact rfl; exact rfl; (focus (omega)); exact rfl) | ((with_reducible apply Step.leq); exact rfl; exact rfl; exact rfl)) | (with_reducible refine AWo.nil ?_) | ((with_reducible apply AW.seq)) | ((with_reducible apply Then.n)) | ((with_reducible apply AW.regL)) | ((with_reducible apply AW.exit)) | ((with_reducible apply InBlk.n)) | ((with_reducible apply InBlk.hit)) | ((with_reducible apply Then.e)) | ((with_reducible apply AW.condF); exact rfl; (focus ((simp only [decide_eq_true_eq, decide_eq_false_iff_not, Bool.not_eq_true', Bool.not_eq_false', Bool.not_true, Bool.not_false]; first | assumption | omega))))))
      exact ⟨_, _, _, by omega, (Or.inl ⟨rfl, (by repeat (first | exact trivial | (refine And.intro rfl ?_)))⟩), p + 1, rfl, by omega, by omega, rfl, rfl⟩
  · (repeat (first | (with_reducible refine AWo.cons ?_) | ((with_reducible refine Step.id ?_); first | ((with_reducible apply Step.move); exact rfl; exact rfl) | ((with_reducible apply Step.assign); exact rfl; exact rfl) | ((with_reducible apply Step.leq); exact rfl; exact rfl; exact rfl)) | (with_reducible refine AWo.nil ?_) | ((with_reducible apply AW.seq)) | ((with_reducible apply Then.n)) | ((with_reducible apply AW.regL)) | ((with_reducible apply AW.exit)) | ((with_reducible apply InBlk.hit)) | ((with_reducible apply Then.e)) | ((with_reducible apply AW.condF); exact rfl; (focus ((simp only [decide_eq_true_eq, decide_eq_false_iff_not, Bool.not_eq_true', Bool.not_eq_false', Bool.not_true, Bool.not_false]; first | assumption | omega))))))
    (refine AW.retD (l := [(4, _)]) (by repeat (first | exact trivial | (refine And.intro ⟨rfl, by (exact .bool _)⟩ ?_))) ?_; (repeat (first | refine Then.r ?_ | refine InBlk.r ?_)))
    exact ⟨_, rfl, rfl, rfl⟩
end Go.Proofs.Ytabdnepfcohncaa.Abs
namespace Go.Proofs.Ytabdnepfcohncaa.Abs
set_option linter.unusedSimpArgs false
set_option linter.unusedVariables false
open Go.RowKit
open Go.Proofs.Ytabdnepfcohncaa.Sim
open Go.Proofs
section
variable {P : Program} {nt : Nat} {ops : Array Oper} {t : Fm} {m : AM} {K : Fm → AM → Prop} {d T : Nat} {p : String} {af : Array Edge}
theorem Step.toStrB {x : Operand} {S D e a o n : Nat} {v : Value} {l : List UInt8} (hx : evo t x = some v) (hs : Sl v a o n) (hn : l.length = n) (hrd : 0 < n → RdL m a o (by8 l)) (hS : P.underlying S = some (.slice e)) (he : P.underlying e = some (.int .u8)) (hD : P.underlying D = some .string)
    (hlt : Nat.blt d nt = true) (hK : K (put t d (.string ⟨l.toArray⟩)) m) : Step P nt ops ⟨some d, .convert S D x, T, p, af, none⟩ t m K := by
  refine .l rfl rfl hlt (by simp [stillB, hS]) (by simp [Op.operands, hx]) ?_
  intro base R w b Q next hb hm hev hn'
  have h1 := hev x (by simp [Op.operands])
  rw [evD_of hx] at h1
  have hrun : (convert S D (b.eval x)).run P w = .ok (.string ⟨l.toArray⟩) w := by
    generalize b.eval x = x' at h1
    rcases hs with ⟨rfl, h0⟩ | ⟨c, hc, rfl⟩ | ⟨h0, o', k, rfl⟩
    · obtain rfl : l = [] := List.eq_nil_of_length_eq_zero (by omega)
      cases h1
      rw [run_convert_bytes_string w S D e none 0 0 hS he hD]
      simp [Conv.bytesToString]
      rfl
    · cases h1 with
      | slice _ _ _ _ q hq hle =>
      subst hn
      refine run_convert_bytes_back w S D e _ _ l hS he hD fun j hj => ?_
      obtain ⟨blk, k1, k2⟩ := hrd (by omega)
      obtain ⟨v', r1, r2⟩ := (hm.of k1 hq).cell (k2 j _ (by8_get hj))
      rw [Addr.add_lit]
      cases r2
      rw [Nat.add_assoc]
      exact r1
    · obtain rfl : l = [] := List.eq_nil_of_length_eq_zero (by omega)
      subst h0
      cases h1 with
      | sliceSpot _ _ _ q hq => exact run_convert_bytes_back w S D e _ _ [] hS he hD fun j hj => by simp at hj
  exact wp_of_does rfl (.inl (by simp [execOp, hrun])) (hn' R (.string ⟨l.toArray⟩) _ m w (.string _) (.refl hm) hK)
theorem Step.eqlS {x y : Operand} {X Y : TypeId} {a b : ByteArray} (hx : evo t x = some (.string a)) (hy : evo t y = some (.string b)) (hX : P.underlying X = some .string) (hlt : Nat.blt d nt = true) (hK : K (put t d (.bool (a.toList == b.toList))) m) : Step P nt ops ⟨some d, .binOp .eql X x y Y, T, p, af, none⟩ t m K := by
  refine .ground rfl rfl hlt (by simp [Op.operands, hx, hy, g1, g0]) (fun h => by simp only [aquiet, evD_of hx, evD_of hy, aint, anil, hX]; simpa [evD_of hx, evD_of hy] using h) ?_ (by simp [g1, g0]) hK
  simp only [execOp, eqGuard, binOp, evD_of hx, evD_of hy, bind, Sem.bind, pure]
  rfl
end
theorem un9 : Try.prog.underlying 9 = some .string := by kernel_rfl
theorem Byts.row {m : AM} {v : Value} {l : List UInt8} (h : Byts m v l) : ∃ a o, Sl v a o l.length ∧ (0 < l.length → RdL m a o (by8 l)) := by
  obtain ⟨a, o, h1, h2, h3⟩ := h
  refine ⟨a, o, h1, fun h0 => ?_⟩
  obtain ⟨b, q1, _⟩ := h3 0 h0
  refine ⟨b, q1, fun j v hj => ?_⟩
  have hj1 := (List.getElem?_eq_some_iff.1 hj).1
  rw [by8_len] at hj1
  obtain ⟨b', r1, r2⟩ := h3 j hj1
  rw [q1] at r1; injection r1 with r1; injection r1 with r1; subst r1
  rw [by8_get hj1] at hj
  injection hj with hj
  rw [← hj, r2, List.getD_eq_getElem?_getD, List.getElem?_eq_getElem hj1]
  rfl
set_option maxRecDepth 100000 in
theorem Equal_ok {m : AM} {v w : Value} {l k : List UInt8} (hv : Byts m v l) (hw : Byts m w k) : ACall Try.prog 19 #[v, w] m (Ret (.bool (l == k)) m) := by
  obtain ⟨a1, o1, s1, r1⟩ := hv.row
  obtain ⟨a2, o2, s2, r2⟩ := hw.row
  refine ACall.start Try.func19 rfl rfl ?_
  (repeat (first | (with_reducible refine AWo.cons ?_) | ((with_reducible refine Step.id ?_); first | ((with_reducible apply Step.move); exact rfl; exact rfl) | ((with_reducible apply Step.assign); exact rfl; exact rfl)) | (with_reducible refine AWo.nil ?_) | ((with_reducible apply AW.seq)) | ((with_reducible apply Then.n)) | ((with_reducible apply AW.regL))))
  ((with_reducible apply Step.toStrB); exact rfl; exact s1; exact rfl; exact (fun h => (r1 h).old _); exact un22; exact un5; exact un9; exact rfl)
  (repeat (first | (with_reducible refine AWo.cons ?_) | ((with_reducible refine Step.id ?_); ((with_reducible apply Step.move); exact rfl; exact rfl))))
  ((with_reducible apply Step.toStrB); exact rfl; exact s2; exact rfl; exact (fun h => (r2 h).old _); exact un22; exact un5; exact un9; exact rfl)
  (repeat ((with_reducible refine AWo.cons ?_)))
  ((with_reducible apply Step.eqlS); exact rfl; exact rfl; exact un9; exact rfl)
  (repeat (first | (with_reducible refine AWo.cons ?_) | ((with_reducible refine Step.id ?_); ((with_reducible apply Step.assign); exact rfl; exact rfl)) | (with_reducible refine AWo.nil ?_) | ((with_reducible apply Then.n))))
  (refine AW.retD (l := [(4, _)]) (by repeat (first | exact trivial | (refine And.intro ⟨rfl, by (exact .bool _)⟩ ?_))) ?_; (repeat (first | refine Then.r ?_ | refine InBlk.r ?_)))
  exact ⟨_, rfl, by simp, rfl⟩
theorem fold_eq : ∀ (l : List UInt8) (n : Nat), l.foldl (fun n c => n * 256 + c.toNat) n = n * 2 ^ (8 * l.length) + numB l
  | [], n => by simp [numB]
  | x :: l, n => by
    have h1 := fold_eq l (n * 256 + x.toNat)
    have h2 := fold_eq l (0 * 256 + x.toNat)
    have e : numB (x :: l) = l.foldl (fun n c => n * 256 + c.toNat) (0 * 256 + x.toNat) := rfl
    rw [e, h2, List.foldl_cons, h1, List.length_cons, show 8 * (l.length + 1) = 8 * l.length + 8 by omega, Nat.pow_add]
    generalize 2 ^ (8 * l.length) = Q
    rw [show (2 : Nat) ^ 8 = 256 by decide, Nat.add_mul, Nat.zero_mul, Nat.zero_add, Nat.mul_assoc, Nat.mul_comm 256 Q]
    omega
theorem be_fold : ∀ (l : List UInt8) (n : Nat), be (l.foldl (fun n c => n * 256 + c.toNat) n) l.length = l
  | [], n => rfl
  | x :: l, n => by
    have h1 := be_fold l (n * 256 + x.toNat)
    rw [List.foldl_cons, List.length_cons]
    show UInt8.ofNat (_ / 2 ^ (8 * l.length)) :: be _ l.length = _
    rw [h1]
    congr 1
    have hb := numB_lt l
    rw [fold_eq, Nat.mul_comm, Nat.mul_add_div (Nat.pow_pos (by decide)), Nat.div_eq_of_lt hb, Nat.add_zero]
    apply UInt8.toNat_inj.1
    have := x.toNat_lt
    rw [UInt8.toNat_ofNat']
    omega
theorem ofNat_toNat (x : UInt8) : UInt8.ofNat x.toNat = x := by
  apply UInt8.toNat_inj.1
  have := x.toNat_lt
  rw [UInt8.toNat_ofNat']
  omega
theorem trB_decX {xs : List UInt8} (h : xs.length = 6) : trB (decX xs) = xs := by
  obtain ⟨a, b, l, rfl⟩ : ∃ a b l, xs = a :: b :: l := by
    rcases xs with _ | ⟨a, _ | ⟨b, l⟩⟩
    · cases h
    · cases h
    · exact ⟨a, b, l, rfl⟩
  have hl : l.length = 4 := by simpa using h
  have ha := a.toNat_lt
  unfold trB decX
  simp only [List.getD_cons_zero, List.getD_cons_succ, List.drop_succ_cons, List.drop_zero, Int.toNat_natCast]
  rw [show (((a.toNat : Nat) : Int) / 16).toNat * 16 + (((a.toNat : Nat) : Int) % 16).toNat = a.toNat by omega, ofNat_toNat, ofNat_toNat]
  congr 2
  have := be_fold l 0
  rw [hl] at this
  exact this
theorem decL_by {r : List UInt8} : ∀ {n : Nat}, 6 * n ≤ r.length → (decL r n).flatMap trB = r.take (6 * n)
  | 0, _ => rfl
  | n + 1, h => by
    have ih := decL_by (n := n) (show 6 * n ≤ r.length by omega)
    rw [decL_succ, List.flatMap_append, ih, List.flatMap_cons, List.flatMap_nil, List.append_nil, trB_decX (sixB_len (n := n + 1) h (by omega))]
    unfold sixB
    rw [show 6 * (n + 1) = 6 * n + 6 by omega, List.take_add]
/-- What was loaded is saved as it was. -/
theorem save_load : ∀ (f : Nat) (s : List UInt8) (B B' : Bk), loadF f s B = some B' → saveB B'.P = saveB B.P ++ s
  | 0, [], B, B', h => by injection h with h; rw [h, List.append_nil]
  | f + 1, [], B, B', h => by injection h with h; rw [h, List.append_nil]
  | 0, _ :: _, B, B', h => by cases h
  | f + 1, c :: r, B, B', h => by
    unfold loadF at h
    split at h
    · cases h
    · rename_i h1
      split at h
      · cases h
      · rename_i h2
        have ih := save_load f _ _ _ h
        have e : (postF B (decL r c.toNat)).1.P = B.P ++ [decL r c.toNat] := by
          revert h2
          unfold postF
          split
          · intro h2; exact absurd (show (2 : Int) ≠ 0 by decide) h2
          · split
            · intro h2; exact absurd (show (11 : Int) ≠ 0 by decide) h2
            · split
              · intro h2; exact absurd (show (5 : Int) ≠ 0 by decide) h2
              · intro _; rfl
        rw [ih, e, saveB_snoc, List.append_assoc]
        congr 1
        unfold postBy
        rw [decL_len, ofNat_toNat, decL_by (by omega), List.cons_append, List.take_append_drop]
theorem un67 : Try.prog.underlying 67 = some (.pointer 88) := by kernel_rfl
theorem BytsAt.byts {m : AM} {v : Value} {a o : Nat} {l : List UInt8} (h : BytsAt m v a o l) (ha : a < m.length) : Byts m v l := ⟨a, o, h.1, ha, h.2⟩
set_option maxHeartbeats 8000000 in
set_option maxRecDepth 100000 in
theorem StockLoads_ok {m : AM} (hw : ∀ M : AM, ACall Try.prog 16 #[] M (Ret (.bool true) M)) {v : Value} {a o : Nat} {s : List UInt8} (h : BytsAt m v a o s) (ha : a < m.length) (hro : 0 < s.length → ∃ b, m[a]? = some (some b) ∧ b.kind = .ro) (hmax : s.length ≤ 9223372036854775807) : ACall Try.prog 7 #[v] m (Ret (.bool true) m) := by
  refine ACall.drop (.bool _) ?_
  have hs := h.1
  refine ACall.start Try.func7 rfl rfl ?_
  by_cases c1 : 2000 < s.length
  · (repeat (first | (with_reducible refine AWo.cons ?_) | ((with_reducible refine Step.id ?_); first | ((with_reducible apply Step.move); exact rfl; exact rfl) | ((with_reducible apply Step.assign); exact rfl; exact rfl) | ((with_reducible apply Step.gtr); exact rfl; exact rfl; exact rfl) | ((with_reducible apply Step.len); exact rfl; (focus (assumption)); (focus (decide +kernel)); exact rfl) | ((with_reducible apply Step.callR fit); exact rfl; exact Try.func16; exact rfl; exact rfl; exact (hw _))) | (with_reducible refine AWo.nil ?_) | ((with_reducible apply AW.seq)) | ((with_reducible apply Then.n)) | ((with_reducible apply AW.regL)) | ((with_reducible apply AW.condT); exact rfl; (focus ((simp only [decide_eq_true_eq, decide_eq_false_iff_not, Bool.not_eq_true', Bool.not_eq_false', Bool.not_true, Bool.not_false]; first | assumption | omega))))))
    (refine AW.ret ?_; (repeat (first | refine Then.r ?_ | refine InBlk.r ?_)))
    exact ⟨_, rfl, rfl, [], by rw [List.append_nil]⟩
  · have hL := Load_ok h ha hro (by omega)
    obtain ⟨e1, hgood⟩ := load_eq s.length s Bk.new Good.new
    rw [show Bk.new.P = [] from rfl] at e1
    have hsave := fun B' => save_load s.length s Bk.new B'
    have hRL := fun (T : AM) => RLoad_ok (m := m ++ T) (h.keep (List.getElem?_append_left ha)) (by rw [List.length_append]; omega) (show s.length ≤ 100000 by omega)
    rw [← e1] at hRL
    (repeat (first | (with_reducible refine AWo.cons ?_) | ((with_reducible refine Step.id ?_); first | ((with_reducible apply Step.move); exact rfl; exact rfl) | ((with_reducible apply Step.assign); exact rfl; exact rfl) | ((with_reducible apply Step.gtr); exact rfl; exact rfl; exact rfl) | ((with_reducible apply Step.len); exact rfl; (focus (assumption)); (focus (decide +kernel)); exact rfl)) | (with_reducible refine AWo.nil ?_) | ((with_reducible apply AW.seq)) | ((with_reducible apply Then.n)) | ((with_reducible apply AW.regL)) | ((with_reducible apply AW.skip)) | ((with_reducible apply AW.condF); exact rfl; (focus ((simp only [decide_eq_true_eq, decide_eq_false_iff_not, Bool.not_eq_true', Bool.not_eq_false', Bool.not_true, Bool.not_false]; first | assumption | omega))))))
    ((with_reducible apply Step.callF fit); exact rfl; exact Try.func34; exact rfl; exact rfl; (focus (rw [List.append_nil]; exact hL)))
    rintro r1 M1 ⟨⟨N1, rfl⟩, hr1⟩
    cases hl : loadF s.length s Bk.new with
    | none =>
      rw [hl] at hr1 hRL
      simp only [Option.map_none] at hr1 hRL
      subst hr1
      rw [← List.append_nil (m ++ N1)]
      (repeat (first | (with_reducible refine AWo.cons ?_) | ((with_reducible refine Step.id ?_); first | ((with_reducible apply Step.move); exact rfl; exact rfl) | ((with_reducible apply Step.assign); exact rfl; exact rfl) | ((with_reducible apply Step.extract); exact rfl; exact rfl; exact rfl)) | (with_reducible refine AWo.nil ?_) | ((with_reducible apply AW.seq)) | ((with_reducible apply Then.n)) | ((with_reducible apply AW.regL))))
      ((with_reducible apply Step.callF fit); exact rfl; exact Try.func35; exact rfl; exact rfl; (focus (rw [List.append_nil]; exact hRL N1)))
      rintro r2 M2 ⟨⟨N2, rfl⟩, rfl⟩
      rw [← List.append_nil (m ++ N1 ++ N2)]
      (repeat (first | (with_reducible refine AWo.cons ?_) | ((with_reducible refine Step.id ?_); first | ((with_reducible apply Step.gdU); exact rfl; exact rfl) | ((with_reducible apply Step.gdT); exact rfl; exact rfl; (focus (rfl))) | ((with_reducible apply Step.gdF); exact rfl; exact rfl; (focus (rfl))) | ((with_reducible apply Step.move); exact rfl; exact rfl) | ((with_reducible apply Step.assign); exact rfl; exact rfl) | ((with_reducible apply Step.ptrNil); exact rfl; exact rfl; exact un49; exact rfl) | ((with_reducible apply Step.ptrNil); exact rfl; exact rfl; exact un67; exact rfl) | ((with_reducible apply Step.neq); exact rfl; exact rfl; exact rfl) | ((with_reducible apply Step.neqB); exact rfl; exact rfl; exact un4; exact rfl) | ((with_reducible apply Step.extract); exact rfl; exact rfl; exact rfl) | ((with_reducible apply Step.pickT); exact rfl; exact rfl; exact rfl; exact rfl; (focus (rfl))) | ((with_reducible apply Step.pickF); exact rfl; exact rfl; exact rfl; exact rfl; (focus (rfl))) | ((with_reducible apply Step.callR fit); exact rfl; exact Try.func16; exact rfl; exact rfl; exact (hw _))) | (with_reducible refine AWo.nil ?_) | ((with_reducible apply AW.seq)) | ((with_reducible apply Then.n)) | ((with_reducible apply AW.regL)) | ((with_reducible apply AW.skip)) | ((with_reducible apply AW.condF); exact rfl; (focus (rfl)))))
      (refine AW.ret ?_; (repeat (first | refine Then.r ?_ | refine InBlk.r ?_)))
      exact ⟨_, rfl, rfl, N1 ++ N2, by rw [List.append_nil, List.append_assoc]⟩
    | some B =>
      rw [hl] at hr1 hRL
      simp only [Option.map_some] at hr1 hRL
      obtain ⟨bk, pv, rfl, hB⟩ := hr1
      have hG := hgood B hl
      have hS := hsave B hl
      rw [show saveB Bk.new.P = [] from rfl, List.nil_append] at hS
      rw [← List.append_nil (m ++ N1)]
      (repeat (first | (with_reducible refine AWo.cons ?_) | ((with_reducible refine Step.id ?_); first | ((with_reducible apply Step.move); exact rfl; exact rfl) | ((with_reducible apply Step.assign); exact rfl; exact rfl) | ((with_reducible apply Step.extract); exact rfl; exact rfl; exact rfl)) | (with_reducible refine AWo.nil ?_) | ((with_reducible apply AW.seq)) | ((with_reducible apply Then.n)) | ((with_reducible apply AW.regL))))
      ((with_reducible apply Step.callF fit); exact rfl; exact Try.func35; exact rfl; exact rfl; (focus (rw [List.append_nil]; exact hRL N1)))
      rintro r2 M2 ⟨⟨N2, rfl⟩, xk, px, rfl, hX⟩
      have hBp : B.P.length ≤ 1000000 := by
        have h1 : ∀ {P : List (List Tr)}, P.length ≤ (saveB P).length := fun {P} => by
          induction P with
          | nil => exact Nat.zero_le _
          | cons l P ih =>
            show (l :: P).length ≤ (postBy l ++ saveB P).length
            rw [List.length_append, postBy_len, List.length_cons]; omega
        have := h1 (P := B.P)
        rw [hS] at this
        omega
      have hSv := Save_ok (hB.old N2) hG.ok hBp
      have hbs := (h.keep (M := m ++ N1 ++ N2) (by rw [List.append_assoc, List.getElem?_append_left ha])).byts (by rw [List.append_assoc, List.length_append]; omega)
      have hC := fun T => counts_ok ((hB.old N2).old T) (hX.old T) hG hBp
      rw [hS] at hSv
      rw [← List.append_nil (m ++ N1 ++ N2)]
      (repeat (first | (with_reducible refine AWo.cons ?_) | ((with_reducible refine Step.id ?_); first | ((with_reducible apply Step.gdT); exact rfl; exact rfl; (focus (rfl))) | ((with_reducible apply Step.move); exact rfl; exact rfl) | ((with_reducible apply Step.assign); exact rfl; exact rfl) | ((with_reducible apply Step.ptrNot); exact rfl; exact rfl; exact un49; exact rfl) | ((with_reducible apply Step.ptrNot); exact rfl; exact rfl; exact un67; exact rfl) | ((with_reducible apply Step.neq); exact rfl; exact rfl; exact rfl) | ((with_reducible apply Step.neqB); exact rfl; exact rfl; exact un4; exact rfl) | ((with_reducible apply Step.extract); exact rfl; exact rfl; exact rfl) | ((with_reducible apply Step.pickF); exact rfl; exact rfl; exact rfl; exact rfl; (focus (rfl)))) | (with_reducible refine AWo.nil ?_) | ((with_reducible apply AW.seq)) | ((with_reducible apply Then.n)) | ((with_reducible apply AW.regL)) | ((with_reducible apply AW.skip)) | ((with_reducible apply AW.condF); exact rfl; (focus (rfl)))))
      ((with_reducible apply Step.callX fit); exact rfl; exact Try.func36; exact rfl; exact rfl; (focus (rw [List.append_nil]; exact hSv)))
      rintro r3 M3 ⟨N3, hN3⟩ hb3
      have hE := Equal_ok hb3 (show Byts M3 v s by rw [hN3, List.append_nil]; exact hbs.old _)
      have hC3 := hC N3
      rw [beq_self_eq_true] at hE
      have hM3 : ∃ N, M3 = m ++ N := ⟨N1 ++ (N2 ++ N3), by rw [hN3, List.append_nil]; simp only [List.append_assoc]⟩
      rw [show m ++ N1 ++ N2 ++ N3 = M3 by rw [hN3, List.append_nil]] at hC3
      (repeat (first | (with_reducible refine AWo.cons ?_) | ((with_reducible refine Step.id ?_); first | ((with_reducible apply Step.gdT); exact rfl; exact rfl; (focus (rfl))) | ((with_reducible apply Step.move); exact rfl; exact rfl) | ((with_reducible apply Step.assign); exact rfl; exact rfl) | ((with_reducible apply Step.pickT); exact rfl; exact rfl; exact rfl; exact rfl; (focus (rfl))) | ((with_reducible apply Step.pickF); exact rfl; exact rfl; exact rfl; exact rfl; (focus (rfl))) | ((with_reducible apply Step.callR fit); exact rfl; exact Try.func19; exact rfl; exact rfl; exact ((by rw [List.append_nil]; exact hE))) | ((with_reducible apply Step.callR fit); exact rfl; exact Try.func37; exact rfl; exact rfl; exact ((by rw [List.append_nil]; exact hC3))) | ((with_reducible apply Step.callR fit); exact rfl; exact Try.func16; exact rfl; exact rfl; exact (hw _))) | (with_reducible refine AWo.nil ?_) | ((with_reducible apply Then.n))))
      (refine AW.ret ?_; (repeat (first | refine Then.r ?_ | refine InBlk.r ?_)))
      obtain ⟨N, hN⟩ := hM3
      exact ⟨_, rfl, rfl, N, by rw [List.append_nil]; exact hN⟩
end Go.Proofs.Ytabdnepfcohncaa.Abs
namespace Go.Proofs.Ytabdnepfcohncaa.Abs
set_option linter.unusedSimpArgs false
set_option linter.unusedVariables false
open Go.RowKit
open Go.Proofs.Ytabdnepfcohncaa.Sim
open Go.ChangeShapes Go.WideShapes Go.Deep
/-- An argument with the cells that it shows. -/
abbrev AR := Value × List Value
def Okarg (W : World) (a : AR) : Prop := g0 a.1 = true ∨ ∃ b o n cap, a.1 = .slice (some ⟨b, o, none⟩) n cap ∧ n ≤ cap ∧ b < W.heap.size ∧ (∀ j x, a.2[j]? = some x → W.cell? ⟨b, o + j, none⟩ = some x) ∧ ∀ x ∈ a.2, g0 x = true
def mkV (i : Nat) : Value → Value
  | .slice (some _) n _ => .slice (some ⟨i, 0, none⟩) n n
  | v => v
def mkP : AR → Option Sim.Place
  | (.slice (some a) n cap, _) => some ⟨a.block, a.off, cap - n⟩
  | _ => none
def mkB : AR → Option Blk
  | (.slice (some _) _ _, c) => some { cells := c, kind := .ro }
  | _ => none
def mkVs : Nat → List AR → List Value
  | _, [] => []
  | i, a :: l => mkV i a.1 :: mkVs (i + 1) l
theorem mkVs_get : ∀ (l : List AR) (i k : Nat), (mkVs i l)[k]? = (l[k]?).map fun a => mkV (i + k) a.1
  | [], i, k => by simp [mkVs]
  | a :: l, i, 0 => by simp [mkVs]
  | a :: l, i, k + 1 => by simp only [mkVs, List.getElem?_cons_succ, mkVs_get l (i + 1) k]; congr 1; funext x; congr 1; omega
theorem mkVs_len : ∀ (l : List AR) (i : Nat), (mkVs i l).length = l.length
  | [], _ => rfl
  | a :: l, i => by simp [mkVs, mkVs_len l (i + 1)]
theorem top_call {P : Program} {f : FuncId} {W : World} (ars : List AR) (h : ∀ a ∈ ars, Okarg W a) (hc : ACall P f (mkVs 0 ars).toArray (ars.map mkB) (Ret (.bool true) (ars.map mkB))) :
    Calls P f (ars.map (·.1)).toArray W fun e w' => e = .returned (.bool true) ∧ Below W.heap.size W w' := by
  let R : Pl := fun i => (ars[i]?).bind mkP
  have hm : MRep W.heap.size R (ars.map mkB) W := by
    refine ⟨fun i hi => ?_, fun i b hi => ?_, fun i j b c p q hi hj hb _ _ _ _ => ?_⟩
    · simp only [List.length_map] at hi
      simp [R, List.getElem?_eq_none hi]
    · rw [List.getElem?_map] at hi
      cases ha : ars[i]? with
      | none => rw [ha] at hi; cases hi
      | some a =>
        rw [ha] at hi
        simp only [Option.map_some, Option.some.injEq] at hi
        obtain ⟨v, c⟩ := a
        rcases h _ (List.mem_of_getElem? ha) with h1 | ⟨bb, o, n, cap, h1, h2, h3, h4, h5⟩
        · simp only at h1
          cases v with
          | slice x n cap => cases x with
            | none => simp [mkB] at hi
            | some x => simp [g0] at h1
          | _ => simp [mkB] at hi
        · simp only at h1
          subst h1
          simp only [mkB, Option.some.injEq] at hi
          subst hi
          refine ⟨⟨bb, o, cap - n⟩, by simp [R, ha, mkP], h3, ?_⟩
          refine ⟨fun e => by simp at e, fun j x hj => ⟨x, h4 j x hj, g0_rel (h5 x (List.mem_of_getElem? hj))⟩⟩
    · rw [List.getElem?_map] at hi
      cases ha : ars[i]? with
      | none => rw [ha] at hi; cases hi
      | some a =>
        rw [ha] at hi
        simp only [Option.map_some, Option.some.injEq] at hi
        obtain ⟨v, c'⟩ := a
        cases v with
        | slice x n cap => cases x with
          | none => simp [mkB] at hi
          | some x => simp only [mkB, Option.some.injEq] at hi; subst hi; cases hb
        | _ => simp [mkB] at hi
  have hargs : Rels R (mkVs 0 ars).toArray (ars.map (·.1)).toArray := by
    refine ⟨by simp [mkVs_len], fun i hi => ?_⟩
    simp only [List.size_toArray, mkVs_len] at hi
    have ha : ars[i]? = some ars[i] := List.getElem?_eq_getElem hi
    have e1 : (mkVs 0 ars).toArray.getD i undef = mkV i ars[i].1 := by
      simp [mkVs_get, ha]
    have e2 : (ars.map (·.1)).toArray.getD i undef = ars[i].1 := by simp [hi]
    rw [e1, e2]
    generalize ars[i] = a at ha
    obtain ⟨v, c⟩ := a
    rcases h _ (List.mem_of_getElem? ha) with h1 | ⟨bb, o, n, cap, h1, h2, h3, h4, h5⟩
    · simp only at h1 ⊢
      cases v with
      | slice x n cap => cases x with
        | none => exact g0_rel h1
        | some x => simp [g0] at h1
      | _ => exact g0_rel h1
    · simp only at h1 ⊢
      subst h1
      have := Rel.slice (R := R) i 0 n n ⟨bb, o, cap - n⟩ (by simp [R, ha, mkP]) (Nat.le_refl _)
      rw [show n + (cap - n) = cap by omega] at this
      simpa [mkV] using this
  refine (hc W.heap.size R W _ (Nat.le_refl _) hm hargs).mono ?_
  rintro e w' ⟨v, v', R', m', rfl, k1, k2, rfl, rfl⟩
  cases k1
  exact ⟨rfl, k2.below hm (Nat.le_refl _)⟩
section
variable {H : Type} {enc : TypeId × Value → H} {P : Program} {w : World} {base : Nat} {spare : Nat → Bool} {held : Bool}
theorem ok_slice {r : Reach} {b0 : Nat} {T e : TypeId} {a : Option Addr} {n c : Nat} (ht : P.underlying T = some (.slice e)) (h : Value.okWide P w r b0 T (.slice a n c)) : (a = none ∧ n = 0 ∧ c = 0) ∨ ∃ b o, a = some ⟨b, o, none⟩ ∧ n ≤ c ∧ b < w.heap.size := by
  simp only [Value.okWide, ht, Cell.okWide, Cell.ok] at h
  cases a with
  | none =>
    cases n <;> cases c <;> simp_all
  | some x =>
    obtain ⟨h1, _, h3⟩ := h
    obtain ⟨_, hs, row, cells, hsh, _⟩ := h3
    obtain ⟨b, o, s⟩ := x
    simp only at hs
    subst hs
    refine .inr ⟨b, o, rfl, h1, ?_⟩
    simp only [World.shape?] at hsh
    rcases Nat.lt_or_ge b w.heap.size with hlt | hge
    · exact hlt
    · rw [Array.getElem?_eq_none hge] at hsh; cases hsh
end
end Go.Proofs.Ytabdnepfcohncaa.Abs
namespace Go.Proofs.Ytabdnepfcohncaa.Abs
set_option linter.unusedSimpArgs false
set_option linter.unusedVariables false
open Go.RowKit
open Go.Proofs.Ytabdnepfcohncaa.Sim
open Go.ChangeShapes Go.WideShapes Go.Deep
section
variable {H : Type} {enc : TypeId × Value → H} {P : Program} {w : World} {base : Nat} {spare : Nat → Bool} {held : Bool}
theorem arg_bytes {r : Reach} {b0 : Nat} {T e : TypeId} {a : Option Addr} {n c : Nat} {d : DataW H} {p : List MemPlace} (ht : P.underlying T = some (.slice e)) (he : P.underlying e = some (.int .u8)) (hce : P.cellsOf e = 1) (hok : Value.okWide P w r b0 T (.slice a n c)) (h : DataW.Trod enc P w base spare held T (.slice a n c) d p) :
    ∃ l : List UInt8, l.length = n ∧ n ≤ maxLen ∧ Okarg w (.slice a n c, by8 l) ∧ (∀ M : AM, ∀ i, M[i]? = some (mkB (.slice a n c, by8 l)) → Sl (mkV i (.slice a n c)) i 0 n ∧ i < M.length ∧ (0 < n → RdL M i 0 (by8 l))) := by
  obtain ⟨fuel, h⟩ := h
  rcases ok_slice ht hok with ⟨rfl, rfl, rfl⟩ | ⟨b, o, rfl, hle, hlt⟩
  · exact ⟨[], rfl, by unfold maxLen; omega, .inl rfl, fun M i hi => ⟨.inl ⟨rfl, rfl⟩, (List.getElem?_eq_some_iff.1 hi).1, fun h => by omega⟩⟩
  · rcases open_ints ht he hce h with ⟨hcs, _⟩ | ⟨x, l, c', zs, hcs, _, hl, hm, hz, _, hcell, hwz⟩
    · simp [Value.cells] at hcs
    · simp [Value.cells] at hcs
      obtain ⟨rfl, rfl, rfl⟩ := hcs
      have hzl : n ≤ zs.length := by rw [hz]; split <;> omega
      have hlen : ((zs.take n).map fun z => UInt8.ofNat z.toNat).length = n := by simp; omega
      refine ⟨(zs.take n).map fun z => UInt8.ofNat z.toNat, hlen, by omega, .inr ⟨b, o, n, c, rfl, hle, hlt, fun j x hj => ?_, g0_by8 _⟩, fun M i hi => ?_⟩
      · by_cases hjn : j < n
        · have hjz : j < zs.length := by omega
          rw [by8_get (by rw [hlen]; exact hjn)] at hj
          injection hj with hj
          have := hcell j hjz
          rw [Addr.add_lit] at this
          rw [this, ← hj]
          have hb := bounds_u8 (hwz _ (List.getElem_mem hjz))
          have h1 : (UInt8.ofNat zs[j].toNat).toNat = zs[j].toNat := by
            rw [UInt8.toNat_ofNat']; exact Nat.mod_eq_of_lt (by omega)
          simp only [List.getElem_map, List.getElem_take]
          rw [h1, List.getD_eq_getElem?_getD, List.getElem?_eq_getElem hjz, Option.getD_some]
          congr 2
          omega
        · rw [List.getElem?_eq_none (by rw [by8_len, hlen]; omega)] at hj
          cases hj
      · simp only [mkB] at hi
        exact ⟨Sl.mk (Nat.le_refl _), (List.getElem?_eq_some_iff.1 hi).1, fun _ => ⟨_, hi, fun j v hj => by rw [Nat.zero_add]; exact hj⟩⟩
end
end Go.Proofs.Ytabdnepfcohncaa.Abs
namespace Go.Proofs.Ytabdnepfcohncaa.Abs
set_option linter.unusedSimpArgs false
set_option linter.unusedVariables false
open Go.RowKit
open Go.Proofs.Ytabdnepfcohncaa.Sim
open Go.Proofs
theorem BytsAt.of {m : AM} {v : Value} {i : Nat} {l : List UInt8} (hs : Sl v i 0 l.length) (hr : 0 < l.length → RdL m i 0 (by8 l)) : BytsAt m v i 0 l := ⟨hs, fun k hk => by
  obtain ⟨b, q1, q2⟩ := hr (by omega)
  refine ⟨b, q1, q2 k _ ?_⟩
  rw [by8_get hk, List.getD_eq_getElem?_getD, List.getElem?_eq_getElem hk]
  rfl⟩
theorem StockLoads_top {m : AM} {a : Option Addr} {n c : Nat} {l : List UInt8} (hw : ∀ M : AM, ACall Try.prog 16 #[] M (Ret (.bool true) M)) (hx : Sl (mkV 0 (.slice a n c)) 0 0 n ∧ 0 < m.length ∧ (0 < n → RdL m 0 0 (by8 l))) (hn : l.length = n) (hi : m[0]? = some (mkB (.slice a n c, by8 l))) (hmax : n ≤ 9223372036854775807) :
    ACall Try.prog 7 #[mkV 0 (.slice a n c)] m (Ret (.bool true) m) := by
  subst hn
  obtain ⟨h1, h2, h3⟩ := hx
  refine StockLoads_ok hw (BytsAt.of h1 h3) h2 (fun h0 => ?_) hmax
  rcases a with _ | a
  · rcases h1 with ⟨_, e⟩ | ⟨c', _, e⟩ | ⟨e, _⟩
    · omega
    · cases e
    · omega
  · exact ⟨_, hi, rfl⟩
end Go.Proofs.Ytabdnepfcohncaa.Abs
