/- slices: two ranges exchanged, a rotation. -/
import Derived.Test.YtmomjannlnafcaaS1
namespace Go.Proofs.Ytmomjannlnafcaa.Abs
set_option linter.unusedSimpArgs false
set_option linter.unusedVariables false
open Go.RowKit
open Go.Proofs.Ytmomjannlnafcaa.Sim
open Go.Proofs
section
variable {m : AM} {r s : Nat} {kd : Kind} {g : FuncId} {cap : Array Value}
theorem swp_far {P Y W X1 X2 Z1 Z2 : List Int} {x z : Int} {i j : Nat} (hi : i = P.length + X1.length) (hj : j = P.length + X1.length + 1 + X2.length + Y.length + Z1.length) :
    swp (P ++ (X1 ++ x :: X2) ++ Y ++ (Z1 ++ z :: Z2) ++ W) i j = P ++ (X1 ++ z :: X2) ++ Y ++ (Z1 ++ x :: Z2) ++ W := by
  have e1 : P ++ (X1 ++ x :: X2) ++ Y ++ (Z1 ++ z :: Z2) ++ W = (P ++ X1) ++ x :: (X2 ++ Y ++ Z1 ++ z :: (Z2 ++ W)) := by simp
  have e2 : (P ++ X1) ++ x :: (X2 ++ Y ++ Z1 ++ z :: (Z2 ++ W)) = (P ++ X1 ++ x :: (X2 ++ Y ++ Z1)) ++ z :: (Z2 ++ W) := by simp
  have g1 : ((P ++ X1) ++ x :: (X2 ++ Y ++ Z1 ++ z :: (Z2 ++ W))).getD i 0 = x := by rw [getD_r (j := 0) (by simp only [List.length_append]; omega)]; simp
  have g2 : ((P ++ X1) ++ x :: (X2 ++ Y ++ Z1 ++ z :: (Z2 ++ W))).getD j 0 = z := by rw [e2, getD_r (j := 0) (by simp only [List.length_append, List.length_cons]; omega)]; simp
  unfold swp
  rw [e1, g1, g2, set_r (j := 0) (by simp only [List.length_append]; omega)]
  have e3 : (P ++ X1) ++ (x :: (X2 ++ Y ++ Z1 ++ z :: (Z2 ++ W))).set 0 z = (P ++ X1 ++ z :: (X2 ++ Y ++ Z1)) ++ z :: (Z2 ++ W) := by simp
  rw [e3, set_r (j := 0) (by simp only [List.length_append, List.length_cons]; omega)]
  simp
-- function 147
set_option maxRecDepth 100000 in
theorem f147_ok (hr : r < m.length) (hkd : kd.solid = true) (a b k n : Nat) (P X Y Z W : List Int) (ha : P.length = a) (hb : a + X.length + Y.length = b) (hx : X.length = k) (hz : Z.length = k) (hn : (P ++ X ++ Y ++ Z ++ W).length = n) (hlim : n ≤ 1000000) :
    ACall Try.prog 147 #[.slice (some ⟨r, 0, none⟩) n n, .int .i64 (a : Nat), .int .i64 (b : Nat), .int .i64 (k : Nat), .func (.func g) #[] cap] (St m r kd s (P ++ X ++ Y ++ Z ++ W)) (Ret (.tuple #[]) (St m r kd s (P ++ Z ++ Y ++ X ++ W))) := by
  have hlen : P.length + X.length + Y.length + Z.length + W.length = n := by rw [← hn]; simp only [List.length_append]
  refine ACall.intro Try.func147 rfl (Nat.le_of_ble_eq_true rfl) ?_
  (repeat (first | (with_reducible refine AWo.cons ?_) | ((with_reducible refine Step.id ?_); ((with_reducible apply Step.assign); exact rfl; exact rfl)) | (with_reducible refine AWo.nil ?_) | ((with_reducible apply AW.seq)) | ((with_reducible apply Then.n)) | ((with_reducible apply AW.regL)) | ((with_reducible apply AW.block))))
  refine AW.loopW (fun u t M => ∃ i, u = k - i ∧ i ≤ k ∧ t = fr [(0, .slice (some ⟨r, 0, none⟩) n n), (1, .int .i64 (a : Nat)), (2, .int .i64 (b : Nat)), (3, .int .i64 (k : Nat)), (4, .func (.func g) #[] cap), (10, .int .i64 ((i : Nat) : Int))] ∧
    M = St m r kd s (P ++ (Z.take i ++ X.drop i) ++ Y ++ (X.take i ++ Z.drop i) ++ W)) ⟨_, _, (by repeat (first | exact trivial | (refine And.intro rfl ?_))), 0, rfl, Nat.zero_le _, rfl, by simp⟩ ?_
  rintro u t M ⟨i, rfl, hi, rfl, rfl⟩
  rcases Nat.lt_or_ge i k with hlt | hge
  · obtain ⟨x, hxe⟩ : ∃ x, X.drop i = x :: X.drop (i + 1) := ⟨X[i]'(by omega), List.drop_eq_getElem_cons (by omega)⟩
    obtain ⟨z, hze⟩ : ∃ z, Z.drop i = z :: Z.drop (i + 1) := ⟨Z[i]'(by omega), List.drop_eq_getElem_cons (by omega)⟩
    have htx : X.take (i + 1) = X.take i ++ [x] := by
      rw [List.take_succ_eq_append_getElem (by omega)]
      have := List.drop_eq_getElem_cons (l := X) (i := i) (by omega)
      rw [hxe] at this; injection this with h1; rw [h1]
    have htz : Z.take (i + 1) = Z.take i ++ [z] := by
      rw [List.take_succ_eq_append_getElem (by omega)]
      have := List.drop_eq_getElem_cons (l := Z) (i := i) (by omega)
      rw [hze] at this; injection this with h1; rw [h1]
    have l1 : (X.take i).length = i := by simp; omega
    have l2 : (Z.take i).length = i := by simp; omega
    have l3 : (X.drop (i + 1)).length = k - (i + 1) := by simp; omega
    have l4 : (Z.drop (i + 1)).length = k - (i + 1) := by simp; omega
    have e0 : P ++ (Z.take i ++ X.drop i) ++ Y ++ (X.take i ++ Z.drop i) ++ W = P ++ (Z.take i ++ x :: X.drop (i + 1)) ++ Y ++ (X.take i ++ z :: Z.drop (i + 1)) ++ W := by rw [hxe, hze]
    have hsw := swp_far (P := P) (Y := Y) (W := W) (X1 := Z.take i) (X2 := X.drop (i + 1)) (Z1 := X.take i) (Z2 := Z.drop (i + 1)) (x := x) (z := z) (i := a + i) (j := b + i) (by omega) (by omega)
    rw [← e0] at hsw
    have hll : (P ++ (Z.take i ++ X.drop i) ++ Y ++ (X.take i ++ Z.drop i) ++ W).length = n := by rw [e0]; simp only [List.length_append, List.length_cons]; omega
    have e1 : ((a : Nat) : Int) + ((i : Nat) : Int) = ((a + i : Nat) : Int) := by omega
    have e2 : ((b : Nat) : Int) + ((i : Nat) : Int) = ((b + i : Nat) : Int) := by omega
    generalize P ++ (Z.take i ++ X.drop i) ++ Y ++ (X.take i ++ Z.drop i) ++ W = row at *
    (repeat (first | (with_reducible refine AWo.cons ?_) | ((with_reducible refine Step.id ?_); first | ((with_reducible apply Step.move); exact rfl; exact rfl) | ((with_reducible apply Step.assign); exact rfl; exact rfl) | ((with_reducible apply Step.load); exact rfl; (focus (decide +kernel)); exact rfl; (focus (exact St.rd hr (by first | omega | (simp [swp, ms_len]; omega))))) | ((with_reducible apply Step.ix1z); exact rfl; (focus (exact Sl.mk (by omega))); exact rfl; (focus (decide +kernel)); exact rfl; (focus (omega))) | ((with_reducible apply Step.addE); exact rfl; exact rfl; (focus (assumption)); (focus (omega)); exact rfl) | ((with_reducible apply Step.add); exact rfl; exact rfl; (focus (omega)); exact rfl) | ((with_reducible apply Step.lss); exact rfl; exact rfl; exact rfl) | ((with_reducible apply Step.storeR); exact rfl; exact rfl; (focus (decide +kernel)); exact hr; exact hkd; (focus (first | omega | (simp [swp, ms_len]; omega))); exact rfl)) | (with_reducible refine AWo.nil ?_) | ((with_reducible apply AW.seq)) | ((with_reducible apply Then.n)) | ((with_reducible apply AW.regL)) | ((with_reducible apply AW.block)) | ((with_reducible apply AW.drawL fit); (focus (decide +kernel))) | ((with_reducible apply InBlk.n)) | ((with_reducible apply AW.skip)) | ((with_reducible apply AW.condT); exact rfl; (focus ((simp only [decide_eq_true_eq, decide_eq_false_iff_not, Bool.not_eq_true', Bool.not_eq_false', Bool.not_true, Bool.not_false]; first | assumption | omega))))))
    refine ⟨_, _, ?_, (by repeat (first | exact trivial | (refine And.intro rfl ?_))), i + 1, rfl, by omega, rfl, ?_⟩
    · omega
    · show St m r kd s (swp row (a + i) (b + i)) = _
      rw [hsw, htx, htz]
      simp
  · (repeat (first | (with_reducible refine AWo.cons ?_) | ((with_reducible refine Step.id ?_); first | ((with_reducible apply Step.move); exact rfl; exact rfl) | ((with_reducible apply Step.lss); exact rfl; exact rfl; exact rfl)) | (with_reducible refine AWo.nil ?_) | ((with_reducible apply AW.seq)) | ((with_reducible apply Then.n)) | ((with_reducible apply AW.regL)) | ((with_reducible apply AW.exit)) | ((with_reducible apply InBlk.hit)) | ((with_reducible apply Then.e)) | ((with_reducible apply AW.condF); exact rfl; (focus ((simp only [decide_eq_true_eq, decide_eq_false_iff_not, Bool.not_eq_true', Bool.not_eq_false', Bool.not_true, Bool.not_false]; first | assumption | omega))))))
    refine ⟨_, rfl, rfl, ?_⟩
    obtain rfl : i = k := by omega
    rw [List.take_of_length_le (by omega), List.take_of_length_le (by omega), List.drop_eq_nil_of_le (by omega), List.drop_eq_nil_of_le (by omega)]
    simp
-- function 141
set_option maxRecDepth 100000 in
theorem f141_ok (hr : r < m.length) (hkd : kd.solid = true) (a b d n : Nat) (P U V W : List Int) (ha : P.length = a) (hb : a + U.length = b) (hd : b + V.length = d) (hu : 0 < U.length) (hv : 0 < V.length) (hn : (P ++ U ++ V ++ W).length = n) (hlim : n ≤ 1000000) :
    ACall Try.prog 141 #[.slice (some ⟨r, 0, none⟩) n n, .int .i64 (a : Nat), .int .i64 (b : Nat), .int .i64 (d : Nat), .func (.func g) #[] cap] (St m r kd s (P ++ U ++ V ++ W)) (Ret (.tuple #[]) (St m r kd s (P ++ V ++ U ++ W))) := by
  have hlen : P.length + U.length + V.length + W.length = n := by rw [← hn]; simp only [List.length_append]
  refine ACall.intro Try.func141 rfl (Nat.le_of_ble_eq_true rfl) ?_
  have e1 : ((b : Nat) : Int) - ((a : Nat) : Int) = ((U.length : Nat) : Int) := by omega
  have e2 : ((d : Nat) : Int) - ((b : Nat) : Int) = ((V.length : Nat) : Int) := by omega
  (repeat (first | (with_reducible refine AWo.cons ?_) | ((with_reducible refine Step.id ?_); first | ((with_reducible apply Step.move); exact rfl; exact rfl) | ((with_reducible apply Step.assign); exact rfl; exact rfl) | ((with_reducible apply Step.subE); exact rfl; exact rfl; (focus (assumption)); (focus (omega)); exact rfl)) | (with_reducible refine AWo.nil ?_) | ((with_reducible apply AW.seq)) | ((with_reducible apply Then.n)) | ((with_reducible apply AW.regL)) | ((with_reducible apply AW.block))))
  refine AW.loopW (fun u t M => ∃ (i j : Nat) (L I J R : List Int), u = i + j ∧ I.length = i ∧ J.length = j ∧ 0 < i ∧ 0 < j ∧ L.length + i = U.length ∧ R.length + j = V.length ∧ V ++ U = L ++ (J ++ I) ++ R ∧
    t = fr [(0, .slice (some ⟨r, 0, none⟩) n n), (1, .int .i64 (a : Nat)), (2, .int .i64 (b : Nat)), (3, .int .i64 (d : Nat)), (4, .func (.func g) #[] cap), (10, .int .i64 ((i : Nat) : Int)), (11, .int .i64 ((j : Nat) : Int))] ∧
    M = St m r kd s (P ++ L ++ I ++ J ++ R ++ W)) ⟨_, _, (by repeat (first | exact trivial | (refine And.intro rfl ?_))), U.length, V.length, [], U, V, [], rfl, rfl, rfl, hu, hv, by simp, by simp, by simp, rfl, by simp⟩ ?_
  rintro u t M ⟨i, j, L, I, J, R, rfl, hI, hJ, hi, hj, hL, hR, hVU, rfl, rfl⟩
  have e3 : ((b : Nat) : Int) - ((i : Nat) : Int) = ((b - i : Nat) : Int) := by omega
  have hl1 : (P ++ L).length = b - i := by rw [List.length_append]; omega
  have hll : (P ++ L ++ I ++ J ++ R ++ W).length = n := by simp only [List.length_append]; omega
  by_cases hij : i = j
  · subst hij
    have e := f147_ok (g := g) (cap := cap) (s := s) hr hkd (b - i) b i n (P ++ L) I [] J (R ++ W) hl1 (by simp; omega) hI hJ (by rw [← hll]; simp) hlim
    simp only [List.append_nil, ← List.append_assoc] at e
    (repeat (first | (with_reducible refine AWo.cons ?_) | ((with_reducible refine Step.id ?_); first | ((with_reducible apply Step.move); exact rfl; exact rfl) | ((with_reducible apply Step.subE); exact rfl; exact rfl; (focus (assumption)); (focus (omega)); exact rfl) | ((with_reducible apply Step.neq); exact rfl; exact rfl; exact rfl) | ((with_reducible apply Step.callM fit); exact rfl; exact Try.func147; exact rfl; exact rfl; exact (e))) | (with_reducible refine AWo.nil ?_) | ((with_reducible apply AW.seq)) | ((with_reducible apply Then.n)) | ((with_reducible apply AW.regL)) | ((with_reducible apply AW.exit)) | ((with_reducible apply InBlk.hit)) | ((with_reducible apply Then.e)) | ((with_reducible apply AW.condF); exact rfl; (focus ((simp; done))))))
    refine ⟨_, rfl, rfl, ?_⟩
    have : P ++ V ++ U ++ W = P ++ (V ++ U) ++ W := by simp
    rw [this, hVU]
    simp
  · rcases Nat.lt_or_ge j i with hlt | hge
    · have hsp : I = I.take j ++ I.drop j := by rw [List.take_append_drop]
      have l1 : (I.take j).length = j := by simp; omega
      have l2 : (I.drop j).length = i - j := by simp; omega
      generalize I.take j = I1 at *
      generalize I.drop j = I2 at *
      subst hsp
      have e := f147_ok (g := g) (cap := cap) (s := s) hr hkd (b - i) b j n (P ++ L) I1 I2 J (R ++ W) hl1 (by omega) l1 hJ (by rw [← hll]; simp) hlim
      simp only [← List.append_assoc] at e hll
      have e4 : ((i : Nat) : Int) - ((j : Nat) : Int) = ((i - j : Nat) : Int) := by omega
      simp only [← List.append_assoc]
      (repeat (first | (with_reducible refine AWo.cons ?_) | ((with_reducible refine Step.id ?_); first | ((with_reducible apply Step.move); exact rfl; exact rfl) | ((with_reducible apply Step.assign); exact rfl; exact rfl) | ((with_reducible apply Step.subE); exact rfl; exact rfl; (focus (assumption)); (focus (omega)); exact rfl) | ((with_reducible apply Step.gtr); exact rfl; exact rfl; exact rfl) | ((with_reducible apply Step.neq); exact rfl; exact rfl; exact rfl) | ((with_reducible apply Step.callM fit); exact rfl; exact Try.func147; exact rfl; exact rfl; exact (e))) | (with_reducible refine AWo.nil ?_) | ((with_reducible apply AW.seq)) | ((with_reducible apply Then.n)) | ((with_reducible apply AW.regL)) | ((with_reducible apply AW.block)) | ((with_reducible apply InBlk.n)) | ((with_reducible apply AW.skip)) | ((with_reducible apply AW.condT); exact rfl; (focus ((simp only [decide_eq_true_eq, decide_eq_false_iff_not, Bool.not_eq_true', Bool.not_eq_false', Bool.not_true, Bool.not_false]; first | assumption | omega))))))
      refine ⟨_, _, ?_, (by repeat (first | exact trivial | (refine And.intro rfl ?_))), i - j, j, L ++ J, I2, I1, R, rfl, l2, l1, by omega, hj, by rw [List.length_append]; omega, hR, by rw [hVU]; simp, rfl, by simp⟩
      omega
    · have hsp : J = J.take (j - i) ++ J.drop (j - i) := by rw [List.take_append_drop]
      have l1 : (J.take (j - i)).length = j - i := by simp; omega
      have l2 : (J.drop (j - i)).length = i := by simp; omega
      generalize J.take (j - i) = J1 at *
      generalize J.drop (j - i) = J2 at *
      subst hsp
      have e := f147_ok (g := g) (cap := cap) (s := s) hr hkd (b - i) (b + j - i) i n (P ++ L) I J1 J2 (R ++ W) hl1 (by omega) hI l2 (by rw [← hll]; simp) hlim
      simp only [← List.append_assoc] at e hll
      have e4 : ((j : Nat) : Int) - ((i : Nat) : Int) = ((j - i : Nat) : Int) := by omega
      have e5 : ((b : Nat) : Int) + ((j : Nat) : Int) = ((b + j : Nat) : Int) := by omega
      have e6 : ((b + j : Nat) : Int) - ((i : Nat) : Int) = ((b + j - i : Nat) : Int) := by omega
      simp only [← List.append_assoc]
      (repeat (first | (with_reducible refine AWo.cons ?_) | ((with_reducible refine Step.id ?_); first | ((with_reducible apply Step.move); exact rfl; exact rfl) | ((with_reducible apply Step.assign); exact rfl; exact rfl) | ((with_reducible apply Step.addE); exact rfl; exact rfl; (focus (assumption)); (focus (omega)); exact rfl) | ((with_reducible apply Step.subE); exact rfl; exact rfl; (focus (assumption)); (focus (omega)); exact rfl) | ((with_reducible apply Step.gtr); exact rfl; exact rfl; exact rfl) | ((with_reducible apply Step.neq); exact rfl; exact rfl; exact rfl) | ((with_reducible apply Step.callM fit); exact rfl; exact Try.func147; exact rfl; exact rfl; exact (e))) | (with_reducible refine AWo.nil ?_) | ((with_reducible apply AW.seq)) | ((with_reducible apply Then.n)) | ((with_reducible apply AW.regL)) | ((with_reducible apply AW.block)) | ((with_reducible apply InBlk.n)) | ((with_reducible apply AW.skip)) | ((with_reducible apply AW.condT); exact rfl; (focus ((simp only [decide_eq_true_eq, decide_eq_false_iff_not, Bool.not_eq_true', Bool.not_eq_false', Bool.not_true, Bool.not_false]; first | assumption | omega)))) | ((with_reducible apply AW.condF); exact rfl; (focus ((simp only [decide_eq_true_eq, decide_eq_false_iff_not, Bool.not_eq_true', Bool.not_eq_false', Bool.not_true, Bool.not_false]; first | assumption | omega))))))
      refine ⟨_, _, ?_, (by repeat (first | exact trivial | (refine And.intro rfl ?_))), i, j - i, L, J2, J1, I ++ R, rfl, l2, l1, hi, by omega, hL, by rw [List.length_append]; omega, by rw [hVU]; simp, rfl, by simp⟩
      omega
end
end Go.Proofs.Ytmomjannlnafcaa.Abs
