/- slices: the symmetric merge of two sorted rows. -/
import Derived.Test.YtmomjannlnafcaaS2
namespace Go.Proofs.Ytmomjannlnafcaa.Abs
set_option linter.unusedSimpArgs false
set_option linter.unusedVariables false
open Go.RowKit
open Go.Proofs.Ytmomjannlnafcaa.Sim
open Go.Proofs
theorem ms_congr {le : Int → Int → Bool} {l k : List Int} (hT : TO le) (h : l.Perm k) : ms le l = ms le k := ms_of hT (ms_perm.trans h.symm) (ms_srt hT)
section
variable {m : AM} {r s : Nat} {kd : Kind} {le : Int → Int → Bool} {c : Int → Int → Int} {p : Int → Prop} {g : FuncId} {cap : Array Value} {fn : Func} {bd : Code}
theorem get_mid {P A B W : List Int} {a i : Nat} (ha : P.length = a) (h : i < A.length) : (P ++ A ++ B ++ W).getD (a + i) 0 = A.getD i 0 := by
  rw [List.append_assoc, List.append_assoc, getD_r (j := i) (by omega), getD_l h]
theorem get_right {P A B W : List Int} {a i : Nat} (ha : (P ++ A).length = a) (h : i < B.length) : (P ++ A ++ B ++ W).getD (a + i) 0 = B.getD i 0 := by
  rw [List.append_assoc, getD_r (j := i) (by omega), getD_l h]
-- function 129
set_option maxRecDepth 100000 in
theorem f129_l (hC : CmpOk m r s kd c p g cap) (hT : TO le) (hf : Try.prog.funcs[g]? = some fn) (hb : fn.body = some bd) (a b d n : Nat) (P B W : List Int) (x : Int) (ha : P.length = a) (hab : a + 1 = b) (hbd : b + B.length = d) (hB : 0 < B.length) (hn : (P ++ [x] ++ B ++ W).length = n) (hlim : n ≤ 1000000)
    (hpx : p x) (hp : ∀ x ∈ B, p x) (hX : ∀ y ∈ B, Cross le c x y) (hs : Srt le B) :
    ACall Try.prog 129 #[.slice (some ⟨r, 0, none⟩) n n, .int .i64 (a : Nat), .int .i64 (b : Nat), .int .i64 (d : Nat), .func (.func g) #[] cap] (St m r kd s (P ++ [x] ++ B ++ W)) (Ret (.tuple #[]) (St m r kd s (P ++ ms le ([x] ++ B) ++ W))) := by
  subst hbd
  have hr := hC.hr; have hkd := hC.hkd
  have hlen : P.length + 1 + B.length + W.length = n := by rw [← hn]; simp only [List.length_append, List.length_cons, List.length_nil]
  refine ACall.intro Try.func129 rfl (Nat.le_of_ble_eq_true rfl) ?_
  (repeat (first | (with_reducible refine AWo.cons ?_) | ((with_reducible refine Step.id ?_); first | ((with_reducible apply Step.move); exact rfl; exact rfl) | ((with_reducible apply Step.assign); exact rfl; exact rfl) | ((with_reducible apply Step.sub); exact rfl; exact rfl; (focus (omega)); exact rfl) | ((with_reducible apply Step.eql); exact rfl; exact rfl; exact rfl)) | (with_reducible refine AWo.nil ?_) | ((with_reducible apply AW.seq)) | ((with_reducible apply Then.n)) | ((with_reducible apply AW.regL)) | ((with_reducible apply AW.block)) | ((with_reducible apply AW.condT); exact rfl; (focus ((simp only [decide_eq_true_eq, decide_eq_false_iff_not, Bool.not_eq_true', Bool.not_eq_false', Bool.not_true, Bool.not_false]; first | assumption | omega))))))
  refine AW.loopW (fun u t M => ∃ (q w : Nat), u = w - q ∧ q ≤ w ∧ w ≤ B.length ∧ (∀ k, k < q → le x (B.getD k 0) = false) ∧ (∀ k, w ≤ k → k < B.length → le x (B.getD k 0) = true) ∧
    t = fr [(0, .slice (some ⟨r, 0, none⟩) n n), (1, .int .i64 (a : Nat)), (2, .int .i64 (b : Nat)), (3, .int .i64 ((b + B.length : Nat) : Int)), (4, .func (.func g) #[] cap), (10, .int .i64 ((b + q : Nat) : Int)), (11, .int .i64 ((b + w : Nat) : Int))] ∧
    M = St m r kd s (P ++ [x] ++ B ++ W)) ⟨_, _, (by repeat (first | exact trivial | (refine And.intro rfl ?_))), 0, B.length, rfl, Nat.zero_le _, Nat.le_refl _, by omega, by omega, rfl, rfl⟩ ?_
  rintro u t M ⟨q, w, rfl, hqw, hw, h1, h2, rfl, rfl⟩
  have hgx : (P ++ [x] ++ B ++ W).getD a 0 = x := by have := get_mid (P := P) (A := [x]) (B := B) (W := W) (i := 0) ha (by simp); simpa using this
  have hgB : ∀ k, k < B.length → (P ++ [x] ++ B ++ W).getD (b + k) 0 = B.getD k 0 := fun k hk => get_right (by simp; omega) hk
  rcases Nat.lt_or_ge q w with hlt | hge
  · obtain ⟨h, hh⟩ : ∃ h, h = (q + w) / 2 := ⟨_, rfl⟩
    have e1 : ((b + q : Nat) : Int) + ((b + w : Nat) : Int) = ((b + q + (b + w) : Nat) : Int) := by omega
    have e2 : ((b + q + (b + w) : Nat) : Int) / 2 = ((b + h : Nat) : Int) := by omega
    have r1 : Rd (St m r kd s (P ++ [x] ++ B ++ W)) r (b + h) (.int .i64 (B.getD h 0)) := by rw [← hgB h (by omega)]; exact St.rd hr (by omega)
    have r2 : Rd (St m r kd s (P ++ [x] ++ B ++ W)) r a (.int .i64 x) := by
      have := St.rd (m := m) (s := s) (kd := kd) (l := P ++ [x] ++ B ++ W) (o := a) hr (by omega)
      rwa [hgx] at this
    have hm : B.getD h 0 ∈ B := by simp [show h < B.length by omega]
    have hc := hC.call (P ++ [x] ++ B ++ W) (B.getD h 0) x (hp _ hm) hpx
    have hx := hX _ hm
    have hmono : ∀ i j, i ≤ j → j < B.length → le (B.getD i 0) (B.getD j 0) = true := fun i j h1 h2 => srt_getE hT hs h1 h2
    generalize (P ++ [x] ++ B ++ W) = row at *
    by_cases hlt2 : c (B.getD h 0) x < 0
    · (repeat (first | (with_reducible refine AWo.cons ?_) | ((with_reducible refine Step.id ?_); first | ((with_reducible apply Step.move); exact rfl; exact rfl) | ((with_reducible apply Step.assign); exact rfl; exact rfl) | ((with_reducible apply Step.load); exact rfl; (focus (decide +kernel)); exact rfl; (focus (assumption))) | ((with_reducible apply Step.ix1z); exact rfl; (focus (exact Sl.mk (by omega))); exact rfl; (focus (decide +kernel)); exact rfl; (focus (omega))) | ((with_reducible apply Step.addE); exact rfl; exact rfl; (focus (assumption)); (focus (omega)); exact rfl) | ((with_reducible apply Step.halfE); exact rfl; exact rfl; (focus (assumption)); (focus (omega)); exact rfl) | ((with_reducible apply Step.toU); exact rfl; exact un3i; exact un46u; (focus (omega)); exact rfl) | ((with_reducible apply Step.toI); exact rfl; exact un46u; exact un3i; (focus (omega)); exact rfl) | ((with_reducible apply Step.add); exact rfl; exact rfl; (focus (omega)); exact rfl) | ((with_reducible apply Step.lss); exact rfl; exact rfl; exact rfl) | ((with_reducible apply Step.callV fit); exact rfl; exact rfl; exact hf; exact hb; exact rfl; exact (hc))) | (with_reducible refine AWo.nil ?_) | ((with_reducible apply AW.seq)) | ((with_reducible apply Then.n)) | ((with_reducible apply AW.regL)) | ((with_reducible apply AW.block)) | ((with_reducible apply AW.drawL fit); (focus (decide +kernel))) | ((with_reducible apply InBlk.n)) | ((with_reducible apply AW.skip)) | ((with_reducible apply AW.condT); exact rfl; (focus ((simp only [decide_eq_true_eq, decide_eq_false_iff_not, Bool.not_eq_true', Bool.not_eq_false', Bool.not_true, Bool.not_false]; first | assumption | omega))))))
      have hxf := hx.1 hlt2
      refine ⟨_, _, ?_, (by repeat (first | exact trivial | (refine And.intro rfl ?_))), h + 1, w, rfl, by omega, hw, fun k hk => ?_, h2, rfl, rfl⟩
      · omega
      · cases hq : le x (B.getD k 0) with
        | false => rfl
        | true => rw [hT.tr _ _ _ hq (hmono k h (by omega) (by omega))] at hxf; cases hxf
    · (repeat (first | (with_reducible refine AWo.cons ?_) | ((with_reducible refine Step.id ?_); first | ((with_reducible apply Step.move); exact rfl; exact rfl) | ((with_reducible apply Step.assign); exact rfl; exact rfl) | ((with_reducible apply Step.load); exact rfl; (focus (decide +kernel)); exact rfl; (focus (assumption))) | ((with_reducible apply Step.ix1z); exact rfl; (focus (exact Sl.mk (by omega))); exact rfl; (focus (decide +kernel)); exact rfl; (focus (omega))) | ((with_reducible apply Step.addE); exact rfl; exact rfl; (focus (assumption)); (focus (omega)); exact rfl) | ((with_reducible apply Step.halfE); exact rfl; exact rfl; (focus (assumption)); (focus (omega)); exact rfl) | ((with_reducible apply Step.toU); exact rfl; exact un3i; exact un46u; (focus (omega)); exact rfl) | ((with_reducible apply Step.toI); exact rfl; exact un46u; exact un3i; (focus (omega)); exact rfl) | ((with_reducible apply Step.lss); exact rfl; exact rfl; exact rfl) | ((with_reducible apply Step.callV fit); exact rfl; exact rfl; exact hf; exact hb; exact rfl; exact (hc))) | (with_reducible refine AWo.nil ?_) | ((with_reducible apply AW.seq)) | ((with_reducible apply Then.n)) | ((with_reducible apply AW.regL)) | ((with_reducible apply AW.block)) | ((with_reducible apply AW.drawL fit); (focus (decide +kernel))) | ((with_reducible apply InBlk.n)) | ((with_reducible apply AW.skip)) | ((with_reducible apply AW.condT); exact rfl; (focus ((simp only [decide_eq_true_eq, decide_eq_false_iff_not, Bool.not_eq_true', Bool.not_eq_false', Bool.not_true, Bool.not_false]; first | assumption | omega)))) | ((with_reducible apply AW.condF); exact rfl; (focus ((simp only [decide_eq_true_eq, decide_eq_false_iff_not, Bool.not_eq_true', Bool.not_eq_false', Bool.not_true, Bool.not_false]; first | assumption | omega))))))
      have hxt : le x (B.getD h 0) = true := by
        cases hq : le x (B.getD h 0) with
        | true => rfl
        | false => exact absurd (hx.2 hq) hlt2
      refine ⟨_, _, ?_, (by repeat (first | exact trivial | (refine And.intro rfl ?_))), q, h, rfl, by omega, by omega, h1, fun k hk hk2 => hT.tr _ _ _ hxt (hmono h k hk hk2), rfl, rfl⟩
      omega
  · obtain rfl : q = w := by omega
    have l1 : (B.take q).length = q := by simp; omega
    have hres : ms le ([x] ++ B) = B.take q ++ x :: B.drop q := by
      rw [ms_congr hT (List.perm_append_comm (l₁ := [x]) (l₂ := B))]
      refine ms_one hT (by rw [List.take_append_drop]; exact hs) (fun y hy => ?_) (fun y hy => ?_) (by rw [List.take_append_drop])
      · obtain ⟨i, i1, i2, rfl⟩ := mem_take_get hy
        exact hT.of_not (h1 i i1)
      · obtain ⟨i, i1, i2, rfl⟩ := mem_drop_get hy
        exact h2 i i1 i2
    have e3 : ((b + q : Nat) : Int) - 1 = ((a + q : Nat) : Int) := by omega
    (repeat (first | (with_reducible refine AWo.cons ?_) | ((with_reducible refine Step.id ?_); first | ((with_reducible apply Step.move); exact rfl; exact rfl) | ((with_reducible apply Step.assign); exact rfl; exact rfl) | ((with_reducible apply Step.lss); exact rfl; exact rfl; exact rfl)) | (with_reducible refine AWo.nil ?_) | ((with_reducible apply AW.seq)) | ((with_reducible apply Then.n)) | ((with_reducible apply AW.regL)) | ((with_reducible apply AW.block)) | ((with_reducible apply AW.exit)) | ((with_reducible apply InBlk.hit)) | ((with_reducible apply Then.e)) | ((with_reducible apply AW.condF); exact rfl; (focus ((simp only [decide_eq_true_eq, decide_eq_false_iff_not, Bool.not_eq_true', Bool.not_eq_false', Bool.not_true, Bool.not_false]; first | assumption | omega))))))
    refine AW.loopW (fun u t M => ∃ (v : Nat), u = q - v ∧ v ≤ q ∧ t = fr [(0, .slice (some ⟨r, 0, none⟩) n n), (10, .int .i64 ((b + q : Nat) : Int)), (13, .int .i64 ((a + v : Nat) : Int))] ∧
      M = St m r kd s (P ++ B.take v ++ x :: (B.take q).drop v ++ (B.drop q ++ W))) ⟨_, _, (by repeat (first | exact trivial | (refine And.intro rfl ?_))), 0, rfl, Nat.zero_le _, rfl, by
        have : P ++ B.take 0 ++ x :: (B.take q).drop 0 ++ (B.drop q ++ W) = P ++ [x] ++ (B.take q ++ B.drop q) ++ W := by simp only [List.take_zero, List.drop_zero, List.append_nil, List.append_assoc, List.cons_append, List.nil_append]
        rw [this, List.take_append_drop]⟩ ?_
    rintro u t M ⟨v, rfl, hv, rfl, rfl⟩
    rcases Nat.lt_or_ge v q with hlt | hge
    · obtain ⟨y, hy⟩ : ∃ y, (B.take q).drop v = y :: (B.take q).drop (v + 1) := ⟨(B.take q)[v]'(by omega), List.drop_eq_getElem_cons (by omega)⟩
      have hty : B.take (v + 1) = B.take v ++ [y] := by
        rw [List.take_succ_eq_append_getElem (by omega)]
        have := List.drop_eq_getElem_cons (l := B.take q) (i := v) (by omega)
        rw [hy] at this; injection this with h1; rw [h1]; simp
      have lv : (B.take v).length = v := by simp; omega
      have e0 : P ++ B.take v ++ x :: (B.take q).drop v ++ (B.drop q ++ W) = (P ++ B.take v) ++ x :: y :: ((B.take q).drop (v + 1) ++ (B.drop q ++ W)) := by rw [hy]; simp
      have hsw := swp_adj (p := P ++ B.take v) (q := (B.take q).drop (v + 1) ++ (B.drop q ++ W)) (x := x) (y := y) (i := a + v) (by rw [List.length_append]; omega)
      have hll : ((P ++ B.take v) ++ x :: y :: ((B.take q).drop (v + 1) ++ (B.drop q ++ W))).length = n := by
        simp only [List.length_append, List.length_cons, List.length_drop]; omega
      rw [e0]
      have e4 : ((a + v : Nat) : Int) + 1 = ((a + v + 1 : Nat) : Int) := by omega
      generalize (P ++ B.take v) ++ x :: y :: ((B.take q).drop (v + 1) ++ (B.drop q ++ W)) = row at *
      (repeat (first | (with_reducible refine AWo.cons ?_) | ((with_reducible refine Step.id ?_); first | ((with_reducible apply Step.move); exact rfl; exact rfl) | ((with_reducible apply Step.assign); exact rfl; exact rfl) | ((with_reducible apply Step.load); exact rfl; (focus (decide +kernel)); exact rfl; (focus (exact St.rd hr (by first | omega | (simp [swp, ms_len]; omega))))) | ((with_reducible apply Step.ix1z); exact rfl; (focus (exact Sl.mk (by omega))); exact rfl; (focus (decide +kernel)); exact rfl; (focus (omega))) | ((with_reducible apply Step.addE); exact rfl; exact rfl; (focus (assumption)); (focus (omega)); exact rfl) | ((with_reducible apply Step.subE); exact rfl; exact rfl; (focus (assumption)); (focus (omega)); exact rfl) | ((with_reducible apply Step.lss); exact rfl; exact rfl; exact rfl) | ((with_reducible apply Step.storeR); exact rfl; exact rfl; (focus (decide +kernel)); exact hr; exact hkd; (focus (first | omega | (simp [swp, ms_len]; omega))); exact rfl)) | (with_reducible refine AWo.nil ?_) | ((with_reducible apply AW.seq)) | ((with_reducible apply Then.n)) | ((with_reducible apply AW.regL)) | ((with_reducible apply AW.block)) | ((with_reducible apply AW.drawL fit); (focus (decide +kernel))) | ((with_reducible apply InBlk.n)) | ((with_reducible apply AW.skip)) | ((with_reducible apply AW.condT); exact rfl; (focus ((simp only [decide_eq_true_eq, decide_eq_false_iff_not, Bool.not_eq_true', Bool.not_eq_false', Bool.not_true, Bool.not_false]; first | assumption | omega))))))
      refine ⟨_, _, ?_, (by repeat (first | exact trivial | (refine And.intro rfl ?_))), v + 1, rfl, by omega, rfl, ?_⟩
      · omega
      · show St m r kd s (swp row (a + v) (a + v + 1)) = _
        rw [hsw, hty]
        simp
    · (repeat (first | (with_reducible refine AWo.cons ?_) | ((with_reducible refine Step.id ?_); first | ((with_reducible apply Step.move); exact rfl; exact rfl) | ((with_reducible apply Step.subE); exact rfl; exact rfl; (focus (assumption)); (focus (omega)); exact rfl) | ((with_reducible apply Step.lss); exact rfl; exact rfl; exact rfl)) | (with_reducible refine AWo.nil ?_) | ((with_reducible apply AW.seq)) | ((with_reducible apply Then.n)) | ((with_reducible apply AW.regL)) | ((with_reducible apply AW.exit)) | ((with_reducible apply InBlk.hit)) | ((with_reducible apply Then.e)) | ((with_reducible apply AW.condF); exact rfl; (focus ((simp only [decide_eq_true_eq, decide_eq_false_iff_not, Bool.not_eq_true', Bool.not_eq_false', Bool.not_true, Bool.not_false]; first | assumption | omega))))))
      (refine AW.ret ?_; (repeat (first | refine Then.r ?_ | refine InBlk.r ?_)))
      refine ⟨_, rfl, rfl, ?_⟩
      obtain rfl : v = q := by omega
      rw [hres, show (B.take v).drop v = [] from List.drop_eq_nil_of_le (by simp only [List.length_take]; omega)]
      simp
-- function 129
set_option maxRecDepth 100000 in
theorem f129_r (hC : CmpOk m r s kd c p g cap) (hT : TO le) (hf : Try.prog.funcs[g]? = some fn) (hb : fn.body = some bd) (a n : Nat) (P A W : List Int) (y : Int) (ha : P.length = a) (hA : 1 < A.length) (hn : (P ++ A ++ [y] ++ W).length = n) (hlim : n ≤ 1000000)
    (hpy : p y) (hp : ∀ x ∈ A, p x) (hX : ∀ x ∈ A, Cross le c x y) (hs : Srt le A) :
    ACall Try.prog 129 #[.slice (some ⟨r, 0, none⟩) n n, .int .i64 (a : Nat), .int .i64 ((a + A.length : Nat) : Int), .int .i64 ((a + A.length + 1 : Nat) : Int), .func (.func g) #[] cap] (St m r kd s (P ++ A ++ [y] ++ W)) (Ret (.tuple #[]) (St m r kd s (P ++ ms le (A ++ [y]) ++ W))) := by
  have hr := hC.hr; have hkd := hC.hkd
  have hlen : P.length + A.length + 1 + W.length = n := by rw [← hn]; simp only [List.length_append, List.length_cons, List.length_nil]
  refine ACall.intro Try.func129 rfl (Nat.le_of_ble_eq_true rfl) ?_
  (repeat (first | (with_reducible refine AWo.cons ?_) | ((with_reducible refine Step.id ?_); first | ((with_reducible apply Step.move); exact rfl; exact rfl) | ((with_reducible apply Step.assign); exact rfl; exact rfl) | ((with_reducible apply Step.sub); exact rfl; exact rfl; (focus (omega)); exact rfl) | ((with_reducible apply Step.eql); exact rfl; exact rfl; exact rfl)) | (with_reducible refine AWo.nil ?_) | ((with_reducible apply AW.seq)) | ((with_reducible apply Then.n)) | ((with_reducible apply AW.regL)) | ((with_reducible apply AW.block)) | ((with_reducible apply AW.skip)) | ((with_reducible apply AW.condT); exact rfl; (focus ((simp only [decide_eq_true_eq, decide_eq_false_iff_not, Bool.not_eq_true', Bool.not_eq_false', Bool.not_true, Bool.not_false]; first | assumption | omega)))) | ((with_reducible apply AW.condF); exact rfl; (focus ((simp only [decide_eq_true_eq, decide_eq_false_iff_not, Bool.not_eq_true', Bool.not_eq_false', Bool.not_true, Bool.not_false]; first | assumption | omega))))))
  refine AW.loopW (fun u t M => ∃ (q w : Nat), u = w - q ∧ q ≤ w ∧ w ≤ A.length ∧ (∀ k, k < q → le (A.getD k 0) y = true) ∧ (∀ k, w ≤ k → k < A.length → le (A.getD k 0) y = false) ∧
    t = fr [(0, .slice (some ⟨r, 0, none⟩) n n), (1, .int .i64 (a : Nat)), (2, .int .i64 ((a + A.length : Nat) : Int)), (4, .func (.func g) #[] cap), (14, .int .i64 ((a + q : Nat) : Int)), (15, .int .i64 ((a + w : Nat) : Int))] ∧
    M = St m r kd s (P ++ A ++ [y] ++ W)) ⟨_, _, (by repeat (first | exact trivial | (refine And.intro rfl ?_))), 0, A.length, rfl, Nat.zero_le _, Nat.le_refl _, by omega, by omega, rfl, rfl⟩ ?_
  rintro u t M ⟨q, w, rfl, hqw, hw, h1, h2, rfl, rfl⟩
  have hgy : (P ++ A ++ [y] ++ W).getD (a + A.length) 0 = y := by have := get_right (P := P) (A := A) (B := [y]) (W := W) (a := a + A.length) (i := 0) (by simp; omega) (by simp); simpa using this
  have hgA : ∀ k, k < A.length → (P ++ A ++ [y] ++ W).getD (a + k) 0 = A.getD k 0 := fun k hk => get_mid ha hk
  rcases Nat.lt_or_ge q w with hlt | hge
  · obtain ⟨h, hh⟩ : ∃ h, h = (q + w) / 2 := ⟨_, rfl⟩
    have e1 : ((a + q : Nat) : Int) + ((a + w : Nat) : Int) = ((a + q + (a + w) : Nat) : Int) := by omega
    have e2 : ((a + q + (a + w) : Nat) : Int) / 2 = ((a + h : Nat) : Int) := by omega
    have r1 : Rd (St m r kd s (P ++ A ++ [y] ++ W)) r (a + h) (.int .i64 (A.getD h 0)) := by rw [← hgA h (by omega)]; exact St.rd hr (by omega)
    have r2 : Rd (St m r kd s (P ++ A ++ [y] ++ W)) r (a + A.length) (.int .i64 y) := by
      have := St.rd (m := m) (s := s) (kd := kd) (l := P ++ A ++ [y] ++ W) (o := a + A.length) hr (by omega)
      rwa [hgy] at this
    have hm : A.getD h 0 ∈ A := by simp [show h < A.length by omega]
    have hc := hC.call (P ++ A ++ [y] ++ W) y (A.getD h 0) hpy (hp _ hm)
    have hx := hX _ hm
    have hmono : ∀ i j, i ≤ j → j < A.length → le (A.getD i 0) (A.getD j 0) = true := fun i j h1 h2 => srt_getE hT hs h1 h2
    generalize (P ++ A ++ [y] ++ W) = row at *
    by_cases hlt2 : c y (A.getD h 0) < 0
    · (repeat (first | (with_reducible refine AWo.cons ?_) | ((with_reducible refine Step.id ?_); first | ((with_reducible apply Step.move); exact rfl; exact rfl) | ((with_reducible apply Step.assign); exact rfl; exact rfl) | ((with_reducible apply Step.load); exact rfl; (focus (decide +kernel)); exact rfl; (focus (assumption))) | ((with_reducible apply Step.ix1z); exact rfl; (focus (exact Sl.mk (by omega))); exact rfl; (focus (decide +kernel)); exact rfl; (focus (omega))) | ((with_reducible apply Step.addE); exact rfl; exact rfl; (focus (assumption)); (focus (omega)); exact rfl) | ((with_reducible apply Step.halfE); exact rfl; exact rfl; (focus (assumption)); (focus (omega)); exact rfl) | ((with_reducible apply Step.toU); exact rfl; exact un3i; exact un46u; (focus (omega)); exact rfl) | ((with_reducible apply Step.toI); exact rfl; exact un46u; exact un3i; (focus (omega)); exact rfl) | ((with_reducible apply Step.lss); exact rfl; exact rfl; exact rfl) | ((with_reducible apply Step.not); exact rfl; exact rfl) | ((with_reducible apply Step.callV fit); exact rfl; exact rfl; exact hf; exact hb; exact rfl; exact (hc))) | (with_reducible refine AWo.nil ?_) | ((with_reducible apply AW.seq)) | ((with_reducible apply Then.n)) | ((with_reducible apply AW.regL)) | ((with_reducible apply AW.block)) | ((with_reducible apply AW.drawL fit); (focus (decide +kernel))) | ((with_reducible apply InBlk.n)) | ((with_reducible apply AW.skip)) | ((with_reducible apply AW.condT); exact rfl; (focus ((simp only [decide_eq_true_eq, decide_eq_false_iff_not, Bool.not_eq_true', Bool.not_eq_false', Bool.not_true, Bool.not_false]; first | assumption | omega)))) | ((with_reducible apply AW.condF); exact rfl; (focus ((simp only [decide_eq_true_eq, decide_eq_false_iff_not, Bool.not_eq_true', Bool.not_eq_false', Bool.not_true, Bool.not_false]; first | assumption | omega))))))
      have hxf := hx.1 hlt2
      refine ⟨_, _, ?_, (by repeat (first | exact trivial | (refine And.intro rfl ?_))), q, h, rfl, by omega, by omega, h1, fun k hk hk2 => ?_, rfl, rfl⟩
      · omega
      · cases hq : le (A.getD k 0) y with
        | false => rfl
        | true => rw [hT.tr _ _ _ (hmono h k hk hk2) hq] at hxf; cases hxf
    · (repeat (first | (with_reducible refine AWo.cons ?_) | ((with_reducible refine Step.id ?_); first | ((with_reducible apply Step.move); exact rfl; exact rfl) | ((with_reducible apply Step.assign); exact rfl; exact rfl) | ((with_reducible apply Step.load); exact rfl; (focus (decide +kernel)); exact rfl; (focus (assumption))) | ((with_reducible apply Step.ix1z); exact rfl; (focus (exact Sl.mk (by omega))); exact rfl; (focus (decide +kernel)); exact rfl; (focus (omega))) | ((with_reducible apply Step.addE); exact rfl; exact rfl; (focus (assumption)); (focus (omega)); exact rfl) | ((with_reducible apply Step.halfE); exact rfl; exact rfl; (focus (assumption)); (focus (omega)); exact rfl) | ((with_reducible apply Step.toU); exact rfl; exact un3i; exact un46u; (focus (omega)); exact rfl) | ((with_reducible apply Step.toI); exact rfl; exact un46u; exact un3i; (focus (omega)); exact rfl) | ((with_reducible apply Step.add); exact rfl; exact rfl; (focus (omega)); exact rfl) | ((with_reducible apply Step.lss); exact rfl; exact rfl; exact rfl) | ((with_reducible apply Step.not); exact rfl; exact rfl) | ((with_reducible apply Step.callV fit); exact rfl; exact rfl; exact hf; exact hb; exact rfl; exact (hc))) | (with_reducible refine AWo.nil ?_) | ((with_reducible apply AW.seq)) | ((with_reducible apply Then.n)) | ((with_reducible apply AW.regL)) | ((with_reducible apply AW.block)) | ((with_reducible apply AW.drawL fit); (focus (decide +kernel))) | ((with_reducible apply InBlk.n)) | ((with_reducible apply AW.skip)) | ((with_reducible apply AW.condT); exact rfl; (focus ((simp only [decide_eq_true_eq, decide_eq_false_iff_not, Bool.not_eq_true', Bool.not_eq_false', Bool.not_true, Bool.not_false]; first | assumption | omega))))))
      have hxt : le (A.getD h 0) y = true := by
        cases hq : le (A.getD h 0) y with
        | true => rfl
        | false => exact absurd (hx.2 hq) hlt2
      refine ⟨_, _, ?_, (by repeat (first | exact trivial | (refine And.intro rfl ?_))), h + 1, w, rfl, by omega, hw, fun k hk => hT.tr _ _ _ (hmono k h (by omega) (by omega)) hxt, h2, rfl, rfl⟩
      omega
  · obtain rfl : q = w := by omega
    have l1 : (A.take q).length = q := by simp; omega
    have hres : ms le (A ++ [y]) = A.take q ++ y :: A.drop q := by
      refine ms_one hT (by rw [List.take_append_drop]; exact hs) (fun x hx => ?_) (fun x hx => ?_) (by rw [List.take_append_drop])
      · obtain ⟨i, i1, i2, rfl⟩ := mem_take_get hx
        exact h1 i i1
      · obtain ⟨i, i1, i2, rfl⟩ := mem_drop_get hx
        exact hT.of_not (h2 i i1 i2)
    (repeat (first | (with_reducible refine AWo.cons ?_) | ((with_reducible refine Step.id ?_); first | ((with_reducible apply Step.move); exact rfl; exact rfl) | ((with_reducible apply Step.assign); exact rfl; exact rfl) | ((with_reducible apply Step.lss); exact rfl; exact rfl; exact rfl)) | (with_reducible refine AWo.nil ?_) | ((with_reducible apply AW.seq)) | ((with_reducible apply Then.n)) | ((with_reducible apply AW.regL)) | ((with_reducible apply AW.block)) | ((with_reducible apply AW.exit)) | ((with_reducible apply InBlk.hit)) | ((with_reducible apply Then.e)) | ((with_reducible apply AW.condF); exact rfl; (focus ((simp only [decide_eq_true_eq, decide_eq_false_iff_not, Bool.not_eq_true', Bool.not_eq_false', Bool.not_true, Bool.not_false]; first | assumption | omega))))))
    refine AW.loopW (fun u t M => ∃ (v : Nat), u = v ∧ q ≤ v ∧ v ≤ A.length ∧ t = fr [(0, .slice (some ⟨r, 0, none⟩) n n), (14, .int .i64 ((a + q : Nat) : Int)), (17, .int .i64 ((a + v : Nat) : Int))] ∧
      M = St m r kd s (P ++ A.take v ++ y :: A.drop v ++ W)) ⟨_, _, (by repeat (first | exact trivial | (refine And.intro rfl ?_))), A.length, rfl, by omega, Nat.le_refl _, rfl, by simp⟩ ?_
    rintro v t M ⟨v', rfl, hqv, hv, rfl, rfl⟩
    rcases Nat.lt_or_ge q v with hlt | hge
    · obtain ⟨v, rfl⟩ : ∃ z, v = z + 1 := ⟨v - 1, by omega⟩
      obtain ⟨x, hx⟩ : ∃ x, A.drop v = x :: A.drop (v + 1) := ⟨A[v]'(by omega), List.drop_eq_getElem_cons (by omega)⟩
      have hty : A.take (v + 1) = A.take v ++ [x] := by
        rw [List.take_succ_eq_append_getElem (by omega)]
        have := List.drop_eq_getElem_cons (l := A) (i := v) (by omega)
        rw [hx] at this; injection this with h1; rw [h1]
      have lv : (A.take v).length = v := by simp; omega
      have e0 : P ++ A.take (v + 1) ++ y :: A.drop (v + 1) ++ W = (P ++ A.take v) ++ x :: y :: (A.drop (v + 1) ++ W) := by rw [hty]; simp
      have hsw := swp_adj (p := P ++ A.take v) (q := A.drop (v + 1) ++ W) (x := x) (y := y) (i := a + v) (by rw [List.length_append]; omega)
      have hll : ((P ++ A.take v) ++ x :: y :: (A.drop (v + 1) ++ W)).length = n := by
        simp only [List.length_append, List.length_cons, List.length_drop]; omega
      rw [e0]
      have e4 : ((a + (v + 1) : Nat) : Int) - 1 = ((a + v : Nat) : Int) := by omega
      generalize (P ++ A.take v) ++ x :: y :: (A.drop (v + 1) ++ W) = row at *
      (repeat (first | (with_reducible refine AWo.cons ?_) | ((with_reducible refine Step.id ?_); first | ((with_reducible apply Step.move); exact rfl; exact rfl) | ((with_reducible apply Step.assign); exact rfl; exact rfl) | ((with_reducible apply Step.load); exact rfl; (focus (decide +kernel)); exact rfl; (focus (exact St.rd hr (by first | omega | (simp [swp, ms_len]; omega))))) | ((with_reducible apply Step.ix1z); exact rfl; (focus (exact Sl.mk (by omega))); exact rfl; (focus (decide +kernel)); exact rfl; (focus (omega))) | ((with_reducible apply Step.subE); exact rfl; exact rfl; (focus (assumption)); (focus (omega)); exact rfl) | ((with_reducible apply Step.gtr); exact rfl; exact rfl; exact rfl) | ((with_reducible apply Step.storeR); exact rfl; exact rfl; (focus (decide +kernel)); exact hr; exact hkd; (focus (first | omega | (simp [swp, ms_len]; omega))); exact rfl)) | (with_reducible refine AWo.nil ?_) | ((with_reducible apply AW.seq)) | ((with_reducible apply Then.n)) | ((with_reducible apply AW.regL)) | ((with_reducible apply AW.block)) | ((with_reducible apply AW.drawL fit); (focus (decide +kernel))) | ((with_reducible apply InBlk.n)) | ((with_reducible apply AW.skip)) | ((with_reducible apply AW.condT); exact rfl; (focus ((simp only [decide_eq_true_eq, decide_eq_false_iff_not, Bool.not_eq_true', Bool.not_eq_false', Bool.not_true, Bool.not_false]; first | assumption | omega))))))
      refine ⟨_, _, ?_, (by repeat (first | exact trivial | (refine And.intro rfl ?_))), v, rfl, by omega, by omega, rfl, ?_⟩
      · omega
      · show St m r kd s (swp row (a + v + 1) (a + v)) = _
        rw [swp_comm _ _ _ (by omega), hsw, hx]
        simp
    · (repeat (first | (with_reducible refine AWo.cons ?_) | ((with_reducible refine Step.id ?_); first | ((with_reducible apply Step.move); exact rfl; exact rfl) | ((with_reducible apply Step.gtr); exact rfl; exact rfl; exact rfl)) | (with_reducible refine AWo.nil ?_) | ((with_reducible apply AW.seq)) | ((with_reducible apply Then.n)) | ((with_reducible apply AW.regL)) | ((with_reducible apply AW.exit)) | ((with_reducible apply InBlk.hit)) | ((with_reducible apply Then.e)) | ((with_reducible apply AW.condF); exact rfl; (focus ((simp only [decide_eq_true_eq, decide_eq_false_iff_not, Bool.not_eq_true', Bool.not_eq_false', Bool.not_true, Bool.not_false]; first | assumption | omega))))))
      (refine AW.ret ?_; (repeat (first | refine Then.r ?_ | refine InBlk.r ?_)))
      refine ⟨_, rfl, rfl, ?_⟩
      obtain rfl : v = q := by omega
      rw [hres]
      simp
end
end Go.Proofs.Ytmomjannlnafcaa.Abs
