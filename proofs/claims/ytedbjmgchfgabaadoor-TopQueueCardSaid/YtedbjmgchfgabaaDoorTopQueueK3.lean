/- Proved here: what the proof of TopQueue rests on, part 3 of 6. Conditions: those that each theorem names. -/
import Derived.Test.YtedbjmgchfgabaaDoorTopQueueK2
namespace Go.Proofs.YtedbjmgchfgabaaDoor.Abs.Jb
set_option linter.unusedSimpArgs false
set_option linter.unusedVariables false
open Go.RowKit
open Go.Proofs.YtedbjmgchfgabaaDoor.Sim
open Go.Proofs
theorem ms_congr {le : Int → Int → Bool} {l k : List Int} (hT : TO le) (h : l.Perm k) : ms le l = ms le k := ms_of hT (ms_perm.trans h.symm) (ms_srt hT)
section
variable {m : AM} {r s : Nat} {kd : Kind} {le : Int → Int → Bool} {c : Int → Int → Int} {p : Int → Prop} {g : FuncId} {cap : Array Value} {fn : Func} {bd : Code}
theorem get_mid {P A B W : List Int} {a i : Nat} (ha : P.length = a) (h : i < A.length) : (P ++ A ++ B ++ W).getD (a + i) 0 = A.getD i 0 := by
  rw [List.append_assoc, List.append_assoc, getD_r (j := i) (by omega), getD_l h]
theorem get_right {P A B W : List Int} {a i : Nat} (ha : (P ++ A).length = a) (h : i < B.length) : (P ++ A ++ B ++ W).getD (a + i) 0 = B.getD i 0 := by
  rw [List.append_assoc, getD_r (j := i) (by omega), getD_l h]
set_option maxRecDepth 100000 in
theorem f129_l (hC : CmpOk m r s kd c p g cap) (hT : TO le) (hf : Tryd.prog.funcs[g]? = some fn) (hb : fn.body = some bd) (a b d n : Nat) (P B W : List Int) (x : Int) (ha : P.length = a) (hab : a + 1 = b) (hbd : b + B.length = d) (hB : 0 < B.length) (hn : (P ++ [x] ++ B ++ W).length = n) (hlim : n ≤ 1000000)
    (hpx : p x) (hp : ∀ x ∈ B, p x) (hX : ∀ y ∈ B, Cross le c x y) (hs : Srt le B) :
    ACall Tryd.prog 124 #[.slice (some ⟨r, 0, none⟩) n n, .int .i64 (a : Nat), .int .i64 (b : Nat), .int .i64 (d : Nat), .func (.func g) #[] cap] (St m r kd s (P ++ [x] ++ B ++ W)) (Ret (.tuple #[]) (St m r kd s (P ++ ms le ([x] ++ B) ++ W))) := by
  subst hbd
  have hr := hC.hr; have hkd := hC.hkd
  have hlen : P.length + 1 + B.length + W.length = n := by rw [← hn]; simp only [List.length_append, List.length_cons, List.length_nil]
  refine ACall.intro Tryd.func124 rfl (Nat.le_of_ble_eq_true rfl) ?_
  (repeat (first | (with_reducible refine AWo.cons ?_) | ((with_reducible refine Step.id ?_); first | ((with_reducible apply Step.move); exact rfl; exact rfl) | ((with_reducible apply Step.assign); exact rfl; exact rfl) | ((with_reducible apply Step.sub); exact rfl; exact rfl; (focus (omega)); exact rfl) | ((with_reducible apply Step.eql); exact rfl; exact rfl; exact rfl)) | (with_reducible refine AWo.nil ?_) | ((with_reducible apply AW.seq)) | ((with_reducible apply Then.n)) | ((with_reducible apply AW.regL)) | ((with_reducible apply AW.block)) | ((with_reducible apply AW.condT); exact rfl; (focus ((simp only [decide_eq_true_eq, decide_eq_false_iff_not, Bool.not_eq_true', Bool.not_eq_false', Bool.not_true, Bool.not_false]; first | assumption | omega))))))
  refine AW.loopW (fun u t M => ∃ (q w : Nat), u = w - q ∧ q ≤ w ∧ w ≤ B.length ∧ (∀ k, k < q → le x (B.getD k 0) = false) ∧ (∀ k, w ≤ k → k < B.length → le x (B.getD k 0) = true) ∧
    t = fr [(0, .slice (some ⟨r, 0, none⟩) n n), (1, .int .i64 (a : Nat)), (2, .int .i64 (b : Nat)), (3, .int .i64 ((b + B.length : Nat) : Int)), (4, .func (.func g) #[] cap), (10, .int .i64 ((b + q : Nat) : Int)), (11, .int .i64 ((b + w : Nat) : Int))] ∧
    M = St m r kd s (P ++ [x] ++ B ++ W)) ⟨_, _, (by repeat (first | exact trivial | (refine And.intro rfl ?_))), 0, B.length, rfl, Nat.zero_le _, Nat.le_refl _, by omega, by omega, rfl, rfl⟩ ?_
  rintro u t M ⟨q, w, rfl, hqw, hw, h1, h2, rfl, rfl⟩
  have hgx : (P ++ [x] ++ B ++ W).getD a 0 = x := by have := get_mid (P := P) (A := [x]) (B := B) (W := W) (i := 0) ha (by simp); simpa using this
  have hgB : ∀ k, k < B.length → (P ++ [x] ++ B ++ W).getD (b + k) 0 = B.getD k 0 := fun k hk => get_right (by simp; omega) hk
  rcases Nat.lt_or_ge q w with hlt | hge
  · obtain ⟨h, hh⟩ : ∃ h, h = (q + w) / 2 := ⟨_, rfl⟩
    have e1 : ((b + q : Nat) : Int) + ((b + w : Nat) : Int) = ((b + q + (b + w) : Nat) : Int) := by omega
    have e2 : ((b + q + (b + w) : Nat) : Int) / 2 = ((b + h : Nat) : Int) := by omega
    have r1 : Rd (St m r kd s (P ++ [x] ++ B ++ W)) r (b + h) (.int .i64 (B.getD h 0)) := by rw [← hgB h (by omega)]; exact St.rd hr (by omega)
    have r2 : Rd (St m r kd s (P ++ [x] ++ B ++ W)) r a (.int .i64 x) := by
      have := St.rd (m := m) (s := s) (kd := kd) (l := P ++ [x] ++ B ++ W) (o := a) hr (by omega)
      rwa [hgx] at this
    have hm : B.getD h 0 ∈ B := by simp [show h < B.length by omega]
    have hc := hC.call (P ++ [x] ++ B ++ W) (B.getD h 0) x (hp _ hm) hpx
    have hx := hX _ hm
    have hmono : ∀ i j, i ≤ j → j < B.length → le (B.getD i 0) (B.getD j 0) = true := fun i j h1 h2 => srt_getE hT hs h1 h2
    generalize (P ++ [x] ++ B ++ W) = row at *
    by_cases hlt2 : c (B.getD h 0) x < 0
    · (repeat (first | (with_reducible refine AWo.cons ?_) | ((with_reducible refine Step.id ?_); first | ((with_reducible apply Step.move); exact rfl; exact rfl) | ((with_reducible apply Step.assign); exact rfl; exact rfl) | ((with_reducible apply Step.load); exact rfl; (focus (decide +kernel)); exact rfl; (focus (assumption))) | ((with_reducible apply Step.ix1z); exact rfl; (focus (exact Sl.mk (by omega))); exact rfl; (focus (decide +kernel)); exact rfl; (focus (omega))) | ((with_reducible apply Step.addE); exact rfl; exact rfl; (focus (assumption)); (focus (omega)); exact rfl) | ((with_reducible apply Step.halfE); exact rfl; exact rfl; (focus (assumption)); (focus (omega)); exact rfl) | ((with_reducible apply Step.toU); exact rfl; exact un3i; exact un46u; (focus (omega)); exact rfl) | ((with_reducible apply Step.toI); exact rfl; exact un46u; exact un3i; (focus (omega)); exact rfl) | ((with_reducible apply Step.add); exact rfl; exact rfl; (focus (omega)); exact rfl) | ((with_reducible apply Step.lss); exact rfl; exact rfl; exact rfl) | ((with_reducible apply Step.callV fit); exact rfl; exact rfl; exact hf; exact hb; exact rfl; exact (hc))) | (with_reducible refine AWo.nil ?_) | ((with_reducible apply AW.seq)) | ((with_reducible apply Then.n)) | ((with_reducible apply AW.regL)) | ((with_reducible apply AW.block)) | ((with_reducible apply AW.drawL fit); (focus (decide +kernel))) | ((with_reducible apply InBlk.n)) | ((with_reducible apply AW.skip)) | ((with_reducible apply AW.condT); exact rfl; (focus ((simp only [decide_eq_true_eq, decide_eq_false_iff_not, Bool.not_eq_true', Bool.not_eq_false', Bool.not_true, Bool.not_false]; first | assumption | omega))))))
      have hxf := hx.1 hlt2
      refine ⟨_, _, ?_, (by repeat (first | exact trivial | (refine And.intro rfl ?_))), h + 1, w, rfl, by omega, hw, fun k hk => ?_, h2, rfl, rfl⟩
      · omega
      · cases hq : le x (B.getD k 0) with
        | false => rfl
        | true => rw [hT.tr _ _ _ hq (hmono k h (by omega) (by omega))] at hxf; cases hxf
    · (repeat (first | (with_reducible refine AWo.cons ?_) | ((with_reducible refine Step.id ?_); first | ((with_reducible apply Step.move); exact rfl; exact rfl) | ((with_reducible apply Step.assign); exact rfl; exact rfl) | ((with_reducible apply Step.load); exact rfl; (focus (decide +kernel)); exact rfl; (focus (assumption))) | ((with_reducible apply Step.ix1z); exact rfl; (focus (exact Sl.mk (by omega))); exact rfl; (focus (decide +kernel)); exact rfl; (focus (omega))) | ((with_reducible apply Step.addE); exact rfl; exact rfl; (focus (assumption)); (focus (omega)); exact rfl) | ((with_reducible apply Step.halfE); exact rfl; exact rfl; (focus (assumption)); (focus (omega)); exact rfl) | ((with_reducible apply Step.toU); exact rfl; exact un3i; exact un46u; (focus (omega)); exact rfl) | ((with_reducible apply Step.toI); exact rfl; exact un46u; exact un3i; (focus (omega)); exact rfl) | ((with_reducible apply Step.lss); exact rfl; exact rfl; exact rfl) | ((with_reducible apply Step.callV fit); exact rfl; exact rfl; exact hf; exact hb; exact rfl; exact (hc))) | (with_reducible refine AWo.nil ?_) | ((with_reducible apply AW.seq)) | ((with_reducible apply Then.n)) | ((with_reducible apply AW.regL)) | ((with_reducible apply AW.block)) | ((with_reducible apply AW.drawL fit); (focus (decide +kernel))) | ((with_reducible apply InBlk.n)) | ((with_reducible apply AW.skip)) | ((with_reducible apply AW.condT); exact rfl; (focus ((simp only [decide_eq_true_eq, decide_eq_false_iff_not, Bool.not_eq_true', Bool.not_eq_false', Bool.not_true, Bool.not_false]; first | assumption | omega)))) | ((with_reducible apply AW.condF); exact rfl; (focus ((simp only [decide_eq_true_eq, decide_eq_false_iff_not, Bool.not_eq_true', Bool.not_eq_false', Bool.not_true, Bool.not_false]; first | assumption | omega))))))
      have hxt : le x (B.getD h 0) = true := by
        cases hq : le x (B.getD h 0) with
        | true => rfl
        | false => exact absurd (hx.2 hq) hlt2
      refine ⟨_, _, ?_, (by repeat (first | exact trivial | (refine And.intro rfl ?_))), q, h, rfl, by omega, by omega, h1, fun k hk hk2 => hT.tr _ _ _ hxt (hmono h k hk hk2), rfl, rfl⟩
      omega
  · obtain rfl : q = w := by omega
    have l1 : (B.take q).length = q := by simp; omega
    have hres : ms le ([x] ++ B) = B.take q ++ x :: B.drop q := by
      rw [ms_congr hT (List.perm_append_comm (l₁ := [x]) (l₂ := B))]
      refine ms_one hT (by rw [List.take_append_drop]; exact hs) (fun y hy => ?_) (fun y hy => ?_) (by rw [List.take_append_drop])
      · obtain ⟨i, i1, i2, rfl⟩ := mem_take_get hy
        exact hT.of_not (h1 i i1)
      · obtain ⟨i, i1, i2, rfl⟩ := mem_drop_get hy
        exact h2 i i1 i2
    have e3 : ((b + q : Nat) : Int) - 1 = ((a + q : Nat) : Int) := by omega
    (repeat (first | (with_reducible refine AWo.cons ?_) | ((with_reducible refine Step.id ?_); first | ((with_reducible apply Step.move); exact rfl; exact rfl) | ((with_reducible apply Step.assign); exact rfl; exact rfl) | ((with_reducible apply Step.lss); exact rfl; exact rfl; exact rfl)) | (with_reducible refine AWo.nil ?_) | ((with_reducible apply AW.seq)) | ((with_reducible apply Then.n)) | ((with_reducible apply AW.regL)) | ((with_reducible apply AW.block)) | ((with_reducible apply AW.exit)) | ((with_reducible apply InBlk.hit)) | ((with_reducible apply Then.e)) | ((with_reducible apply AW.condF); exact rfl; (focus ((simp only [decide_eq_true_eq, decide_eq_false_iff_not, Bool.not_eq_true', Bool.not_eq_false', Bool.not_true, Bool.not_false]; first | assumption | omega))))))
    refine AW.loopW (fun u t M => ∃ (v : Nat), u = q - v ∧ v ≤ q ∧ t = fr [(0, .slice (some ⟨r, 0, none⟩) n n), (10, .int .i64 ((b + q : Nat) : Int)), (13, .int .i64 ((a + v : Nat) : Int))] ∧
      M = St m r kd s (P ++ B.take v ++ x :: (B.take q).drop v ++ (B.drop q ++ W))) ⟨_, _, (by repeat (first | exact trivial | (refine And.intro rfl ?_))), 0, rfl, Nat.zero_le _, rfl, by
        have : P ++ B.take 0 ++ x :: (B.take q).drop 0 ++ (B.drop q ++ W) = P ++ [x] ++ (B.take q ++ B.drop q) ++ W := by simp only [List.take_zero, List.drop_zero, List.append_nil, List.append_assoc, List.cons_append, List.nil_append]
        rw [this, List.take_append_drop]⟩ ?_
    rintro u t M ⟨v, rfl, hv, rfl, rfl⟩
    rcases Nat.lt_or_ge v q with hlt | hge
    · obtain ⟨y, hy⟩ : ∃ y, (B.take q).drop v = y :: (B.take q).drop (v + 1) := ⟨(B.take q)[v]'(by omega), List.drop_eq_getElem_cons (by omega)⟩
      have hty : B.take (v + 1) = B.take v ++ [y] := by
        rw [List.take_succ_eq_append_getElem (by omega)]
        have := List.drop_eq_getElem_cons (l := B.take q) (i := v) (by omega)
        rw [hy] at this; injection this with h1; rw [h1]; simp
      have lv : (B.take v).length = v := by simp; omega
      have e0 : P ++ B.take v ++ x :: (B.take q).drop v ++ (B.drop q ++ W) = (P ++ B.take v) ++ x :: y :: ((B.take q).drop (v + 1) ++ (B.drop q ++ W)) := by rw [hy]; simp
      have hsw := swp_adj (p := P ++ B.take v) (q := (B.take q).drop (v + 1) ++ (B.drop q ++ W)) (x := x) (y := y) (i := a + v) (by rw [List.length_append]; omega)
      have hll : ((P ++ B.take v) ++ x :: y :: ((B.take q).drop (v + 1) ++ (B.drop q ++ W))).length = n := by
        simp only [List.length_append, List.length_cons, List.length_drop]; omega
      rw [e0]
      have e4 : ((a + v : Nat) : Int) + 1 = ((a + v + 1 : Nat) : Int) := by omega
      generalize (P ++ B.take v) ++ x :: y :: ((B.take q).drop (v + 1) ++ (B.drop q ++ W)) = row at *
      (repeat (first | (with_reducible refine AWo.cons ?_) | ((with_reducible refine Step.id ?_); first | ((with_reducible apply Step.move); exact rfl; exact rfl) | ((with_reducible apply Step.assign); exact rfl; exact rfl) | ((with_reducible apply Step.load); exact rfl; (focus (decide +kernel)); exact rfl; (focus (exact St.rd hr (by first | omega | (simp [swp, ms_len]; omega))))) | ((with_reducible apply Step.ix1z); exact rfl; (focus (exact Sl.mk (by omega))); exact rfl; (focus (decide +kernel)); exact rfl; (focus (omega))) | ((with_reducible apply Step.addE); exact rfl; exact rfl; (focus (assumption)); (focus (omega)); exact rfl) | ((with_reducible apply Step.subE); exact rfl; exact rfl; (focus (assumption)); (focus (omega)); exact rfl) | ((with_reducible apply Step.lss); exact rfl; exact rfl; exact rfl) | ((with_reducible apply Step.storeR); exact rfl; exact rfl; (focus (decide +kernel)); exact hr; exact hkd; (focus (first | omega | (simp [swp, ms_len]; omega))); exact rfl)) | (with_reducible refine AWo.nil ?_) | ((with_reducible apply AW.seq)) | ((with_reducible apply Then.n)) | ((with_reducible apply AW.regL)) | ((with_reducible apply AW.block)) | ((with_reducible apply AW.drawL fit); (focus (decide +kernel))) | ((with_reducible apply InBlk.n)) | ((with_reducible apply AW.skip)) | ((with_reducible apply AW.condT); exact rfl; (focus ((simp only [decide_eq_true_eq, decide_eq_false_iff_not, Bool.not_eq_true', Bool.not_eq_false', Bool.not_true, Bool.not_false]; first | assumption | omega))))))
      refine ⟨_, _, ?_, (by repeat (first | exact trivial | (refine And.intro rfl ?_))), v + 1, rfl, by omega, rfl, ?_⟩
      · omega
      · show St m r kd s (swp row (a + v) (a + v + 1)) = _
        rw [hsw, hty]
        simp
    · (repeat (first | (with_reducible refine AWo.cons ?_) | ((with_reducible refine Step.id ?_); first | ((with_reducible apply Step.move); exact rfl; exact rfl) | ((with_reducible apply Step.subE); exact rfl; exact rfl; (focus (assumption)); (focus (omega)); exact rfl) | ((with_reducible apply Step.lss); exact rfl; exact rfl; exact rfl)) | (with_reducible refine AWo.nil ?_) | ((with_reducible apply AW.seq)) | ((with_reducible apply Then.n)) | ((with_reducible apply AW.regL)) | ((with_reducible apply AW.exit)) | ((with_reducible apply InBlk.hit)) | ((with_reducible apply Then.e)) | ((with_reducible apply AW.condF); exact rfl; (focus ((simp only [decide_eq_true_eq, decide_eq_false_iff_not, Bool.not_eq_true', Bool.not_eq_false', Bool.not_true, Bool.not_false]; first | assumption | omega))))))
      (refine AW.ret ?_; (repeat (first | refine Then.r ?_ | refine InBlk.r ?_)))
      refine ⟨_, rfl, rfl, ?_⟩
      obtain rfl : v = q := by omega
      rw [hres, show (B.take v).drop v = [] from List.drop_eq_nil_of_le (by simp only [List.length_take]; omega)]
      simp
set_option maxRecDepth 100000 in
theorem f129_r (hC : CmpOk m r s kd c p g cap) (hT : TO le) (hf : Tryd.prog.funcs[g]? = some fn) (hb : fn.body = some bd) (a n : Nat) (P A W : List Int) (y : Int) (ha : P.length = a) (hA : 1 < A.length) (hn : (P ++ A ++ [y] ++ W).length = n) (hlim : n ≤ 1000000)
    (hpy : p y) (hp : ∀ x ∈ A, p x) (hX : ∀ x ∈ A, Cross le c x y) (hs : Srt le A) :
    ACall Tryd.prog 124 #[.slice (some ⟨r, 0, none⟩) n n, .int .i64 (a : Nat), .int .i64 ((a + A.length : Nat) : Int), .int .i64 ((a + A.length + 1 : Nat) : Int), .func (.func g) #[] cap] (St m r kd s (P ++ A ++ [y] ++ W)) (Ret (.tuple #[]) (St m r kd s (P ++ ms le (A ++ [y]) ++ W))) := by
  have hr := hC.hr; have hkd := hC.hkd
  have hlen : P.length + A.length + 1 + W.length = n := by rw [← hn]; simp only [List.length_append, List.length_cons, List.length_nil]
  refine ACall.intro Tryd.func124 rfl (Nat.le_of_ble_eq_true rfl) ?_
  (repeat (first | (with_reducible refine AWo.cons ?_) | ((with_reducible refine Step.id ?_); first | ((with_reducible apply Step.move); exact rfl; exact rfl) | ((with_reducible apply Step.assign); exact rfl; exact rfl) | ((with_reducible apply Step.sub); exact rfl; exact rfl; (focus (omega)); exact rfl) | ((with_reducible apply Step.eql); exact rfl; exact rfl; exact rfl)) | (with_reducible refine AWo.nil ?_) | ((with_reducible apply AW.seq)) | ((with_reducible apply Then.n)) | ((with_reducible apply AW.regL)) | ((with_reducible apply AW.block)) | ((with_reducible apply AW.skip)) | ((with_reducible apply AW.condT); exact rfl; (focus ((simp only [decide_eq_true_eq, decide_eq_false_iff_not, Bool.not_eq_true', Bool.not_eq_false', Bool.not_true, Bool.not_false]; first | assumption | omega)))) | ((with_reducible apply AW.condF); exact rfl; (focus ((simp only [decide_eq_true_eq, decide_eq_false_iff_not, Bool.not_eq_true', Bool.not_eq_false', Bool.not_true, Bool.not_false]; first | assumption | omega))))))
  refine AW.loopW (fun u t M => ∃ (q w : Nat), u = w - q ∧ q ≤ w ∧ w ≤ A.length ∧ (∀ k, k < q → le (A.getD k 0) y = true) ∧ (∀ k, w ≤ k → k < A.length → le (A.getD k 0) y = false) ∧
    t = fr [(0, .slice (some ⟨r, 0, none⟩) n n), (1, .int .i64 (a : Nat)), (2, .int .i64 ((a + A.length : Nat) : Int)), (4, .func (.func g) #[] cap), (14, .int .i64 ((a + q : Nat) : Int)), (15, .int .i64 ((a + w : Nat) : Int))] ∧
    M = St m r kd s (P ++ A ++ [y] ++ W)) ⟨_, _, (by repeat (first | exact trivial | (refine And.intro rfl ?_))), 0, A.length, rfl, Nat.zero_le _, Nat.le_refl _, by omega, by omega, rfl, rfl⟩ ?_
  rintro u t M ⟨q, w, rfl, hqw, hw, h1, h2, rfl, rfl⟩
  have hgy : (P ++ A ++ [y] ++ W).getD (a + A.length) 0 = y := by have := get_right (P := P) (A := A) (B := [y]) (W := W) (a := a + A.length) (i := 0) (by simp; omega) (by simp); simpa using this
  have hgA : ∀ k, k < A.length → (P ++ A ++ [y] ++ W).getD (a + k) 0 = A.getD k 0 := fun k hk => get_mid ha hk
  rcases Nat.lt_or_ge q w with hlt | hge
  · obtain ⟨h, hh⟩ : ∃ h, h = (q + w) / 2 := ⟨_, rfl⟩
    have e1 : ((a + q : Nat) : Int) + ((a + w : Nat) : Int) = ((a + q + (a + w) : Nat) : Int) := by omega
    have e2 : ((a + q + (a + w) : Nat) : Int) / 2 = ((a + h : Nat) : Int) := by omega
    have r1 : Rd (St m r kd s (P ++ A ++ [y] ++ W)) r (a + h) (.int .i64 (A.getD h 0)) := by rw [← hgA h (by omega)]; exact St.rd hr (by omega)
    have r2 : Rd (St m r kd s (P ++ A ++ [y] ++ W)) r (a + A.length) (.int .i64 y) := by
      have := St.rd (m := m) (s := s) (kd := kd) (l := P ++ A ++ [y] ++ W) (o := a + A.length) hr (by omega)
      rwa [hgy] at this
    have hm : A.getD h 0 ∈ A := by simp [show h < A.length by omega]
    have hc := hC.call (P ++ A ++ [y] ++ W) y (A.getD h 0) hpy (hp _ hm)
    have hx := hX _ hm
    have hmono : ∀ i j, i ≤ j → j < A.length → le (A.getD i 0) (A.getD j 0) = true := fun i j h1 h2 => srt_getE hT hs h1 h2
    generalize (P ++ A ++ [y] ++ W) = row at *
    by_cases hlt2 : c y (A.getD h 0) < 0
    · (repeat (first | (with_reducible refine AWo.cons ?_) | ((with_reducible refine Step.id ?_); first | ((with_reducible apply Step.move); exact rfl; exact rfl) | ((with_reducible apply Step.assign); exact rfl; exact rfl) | ((with_reducible apply Step.load); exact rfl; (focus (decide +kernel)); exact rfl; (focus (assumption))) | ((with_reducible apply Step.ix1z); exact rfl; (focus (exact Sl.mk (by omega))); exact rfl; (focus (decide +kernel)); exact rfl; (focus (omega))) | ((with_reducible apply Step.addE); exact rfl; exact rfl; (focus (assumption)); (focus (omega)); exact rfl) | ((with_reducible apply Step.halfE); exact rfl; exact rfl; (focus (assumption)); (focus (omega)); exact rfl) | ((with_reducible apply Step.toU); exact rfl; exact un3i; exact un46u; (focus (omega)); exact rfl) | ((with_reducible apply Step.toI); exact rfl; exact un46u; exact un3i; (focus (omega)); exact rfl) | ((with_reducible apply Step.lss); exact rfl; exact rfl; exact rfl) | ((with_reducible apply Step.not); exact rfl; exact rfl) | ((with_reducible apply Step.callV fit); exact rfl; exact rfl; exact hf; exact hb; exact rfl; exact (hc))) | (with_reducible refine AWo.nil ?_) | ((with_reducible apply AW.seq)) | ((with_reducible apply Then.n)) | ((with_reducible apply AW.regL)) | ((with_reducible apply AW.block)) | ((with_reducible apply AW.drawL fit); (focus (decide +kernel))) | ((with_reducible apply InBlk.n)) | ((with_reducible apply AW.skip)) | ((with_reducible apply AW.condT); exact rfl; (focus ((simp only [decide_eq_true_eq, decide_eq_false_iff_not, Bool.not_eq_true', Bool.not_eq_false', Bool.not_true, Bool.not_false]; first | assumption | omega)))) | ((with_reducible apply AW.condF); exact rfl; (focus ((simp only [decide_eq_true_eq, decide_eq_false_iff_not, Bool.not_eq_true', Bool.not_eq_false', Bool.not_true, Bool.not_false]; first | assumption | omega))))))
      have hxf := hx.1 hlt2
      refine ⟨_, _, ?_, (by repeat (first | exact trivial | (refine And.intro rfl ?_))), q, h, rfl, by omega, by omega, h1, fun k hk hk2 => ?_, rfl, rfl⟩
      · omega
      · cases hq : le (A.getD k 0) y with
        | false => rfl
        | true => rw [hT.tr _ _ _ (hmono h k hk hk2) hq] at hxf; cases hxf
    · (repeat (first | (with_reducible refine AWo.cons ?_) | ((with_reducible refine Step.id ?_); first | ((with_reducible apply Step.move); exact rfl; exact rfl) | ((with_reducible apply Step.assign); exact rfl; exact rfl) | ((with_reducible apply Step.load); exact rfl; (focus (decide +kernel)); exact rfl; (focus (assumption))) | ((with_reducible apply Step.ix1z); exact rfl; (focus (exact Sl.mk (by omega))); exact rfl; (focus (decide +kernel)); exact rfl; (focus (omega))) | ((with_reducible apply Step.addE); exact rfl; exact rfl; (focus (assumption)); (focus (omega)); exact rfl) | ((with_reducible apply Step.halfE); exact rfl; exact rfl; (focus (assumption)); (focus (omega)); exact rfl) | ((with_reducible apply Step.toU); exact rfl; exact un3i; exact un46u; (focus (omega)); exact rfl) | ((with_reducible apply Step.toI); exact rfl; exact un46u; exact un3i; (focus (omega)); exact rfl) | ((with_reducible apply Step.add); exact rfl; exact rfl; (focus (omega)); exact rfl) | ((with_reducible apply Step.lss); exact rfl; exact rfl; exact rfl) | ((with_reducible apply Step.not); exact rfl; exact rfl) | ((with_reducible apply Step.callV fit); exact rfl; exact rfl; exact hf; exact hb; exact rfl; exact (hc))) | (with_reducible refine AWo.nil ?_) | ((with_reducible apply AW.seq)) | ((with_reducible apply Then.n)) | ((with_reducible apply AW.regL)) | ((with_reducible apply AW.block)) | ((with_reducible apply AW.drawL fit); (focus (decide +kernel))) | ((with_reducible apply InBlk.n)) | ((with_reducible apply AW.skip)) | ((with_reducible apply AW.condT); exact rfl; (focus ((simp only [decide_eq_true_eq, decide_eq_false_iff_not, Bool.not_eq_true', Bool.not_eq_false', Bool.not_true, Bool.not_false]; first | assumption | omega))))))
      have hxt : le (A.getD h 0) y = true := by
        cases hq : le (A.getD h 0) y with
        | true => rfl
        | false => exact absurd (hx.2 hq) hlt2
      refine ⟨_, _, ?_, (by repeat (first | exact trivial | (refine And.intro rfl ?_))), h + 1, w, rfl, by omega, hw, fun k hk => hT.tr _ _ _ (hmono k h (by omega) (by omega)) hxt, h2, rfl, rfl⟩
      omega
  · obtain rfl : q = w := by omega
    have l1 : (A.take q).length = q := by simp; omega
    have hres : ms le (A ++ [y]) = A.take q ++ y :: A.drop q := by
      refine ms_one hT (by rw [List.take_append_drop]; exact hs) (fun x hx => ?_) (fun x hx => ?_) (by rw [List.take_append_drop])
      · obtain ⟨i, i1, i2, rfl⟩ := mem_take_get hx
        exact h1 i i1
      · obtain ⟨i, i1, i2, rfl⟩ := mem_drop_get hx
        exact hT.of_not (h2 i i1 i2)
    (repeat (first | (with_reducible refine AWo.cons ?_) | ((with_reducible refine Step.id ?_); first | ((with_reducible apply Step.move); exact rfl; exact rfl) | ((with_reducible apply Step.assign); exact rfl; exact rfl) | ((with_reducible apply Step.lss); exact rfl; exact rfl; exact rfl)) | (with_reducible refine AWo.nil ?_) | ((with_reducible apply AW.seq)) | ((with_reducible apply Then.n)) | ((with_reducible apply AW.regL)) | ((with_reducible apply AW.block)) | ((with_reducible apply AW.exit)) | ((with_reducible apply InBlk.hit)) | ((with_reducible apply Then.e)) | ((with_reducible apply AW.condF); exact rfl; (focus ((simp only [decide_eq_true_eq, decide_eq_false_iff_not, Bool.not_eq_true', Bool.not_eq_false', Bool.not_true, Bool.not_false]; first | assumption | omega))))))
    refine AW.loopW (fun u t M => ∃ (v : Nat), u = v ∧ q ≤ v ∧ v ≤ A.length ∧ t = fr [(0, .slice (some ⟨r, 0, none⟩) n n), (14, .int .i64 ((a + q : Nat) : Int)), (17, .int .i64 ((a + v : Nat) : Int))] ∧
      M = St m r kd s (P ++ A.take v ++ y :: A.drop v ++ W)) ⟨_, _, (by repeat (first | exact trivial | (refine And.intro rfl ?_))), A.length, rfl, by omega, Nat.le_refl _, rfl, by simp⟩ ?_
    rintro v t M ⟨v', rfl, hqv, hv, rfl, rfl⟩
    rcases Nat.lt_or_ge q v with hlt | hge
    · obtain ⟨v, rfl⟩ : ∃ z, v = z + 1 := ⟨v - 1, by omega⟩
      obtain ⟨x, hx⟩ : ∃ x, A.drop v = x :: A.drop (v + 1) := ⟨A[v]'(by omega), List.drop_eq_getElem_cons (by omega)⟩
      have hty : A.take (v + 1) = A.take v ++ [x] := by
        rw [List.take_succ_eq_append_getElem (by omega)]
        have := List.drop_eq_getElem_cons (l := A) (i := v) (by omega)
        rw [hx] at this; injection this with h1; rw [h1]
      have lv : (A.take v).length = v := by simp; omega
      have e0 : P ++ A.take (v + 1) ++ y :: A.drop (v + 1) ++ W = (P ++ A.take v) ++ x :: y :: (A.drop (v + 1) ++ W) := by rw [hty]; simp
      have hsw := swp_adj (p := P ++ A.take v) (q := A.drop (v + 1) ++ W) (x := x) (y := y) (i := a + v) (by rw [List.length_append]; omega)
      have hll : ((P ++ A.take v) ++ x :: y :: (A.drop (v + 1) ++ W)).length = n := by
        simp only [List.length_append, List.length_cons, List.length_drop]; omega
      rw [e0]
      have e4 : ((a + (v + 1) : Nat) : Int) - 1 = ((a + v : Nat) : Int) := by omega
      generalize (P ++ A.take v) ++ x :: y :: (A.drop (v + 1) ++ W) = row at *
      (repeat (first | (with_reducible refine AWo.cons ?_) | ((with_reducible refine Step.id ?_); first | ((with_reducible apply Step.move); exact rfl; exact rfl) | ((with_reducible apply Step.assign); exact rfl; exact rfl) | ((with_reducible apply Step.load); exact rfl; (focus (decide +kernel)); exact rfl; (focus (exact St.rd hr (by first | omega | (simp [swp, ms_len]; omega))))) | ((with_reducible apply Step.ix1z); exact rfl; (focus (exact Sl.mk (by omega))); exact rfl; (focus (decide +kernel)); exact rfl; (focus (omega))) | ((with_reducible apply Step.subE); exact rfl; exact rfl; (focus (assumption)); (focus (omega)); exact rfl) | ((with_reducible apply Step.gtr); exact rfl; exact rfl; exact rfl) | ((with_reducible apply Step.storeR); exact rfl; exact rfl; (focus (decide +kernel)); exact hr; exact hkd; (focus (first | omega | (simp [swp, ms_len]; omega))); exact rfl)) | (with_reducible refine AWo.nil ?_) | ((with_reducible apply AW.seq)) | ((with_reducible apply Then.n)) | ((with_reducible apply AW.regL)) | ((with_reducible apply AW.block)) | ((with_reducible apply AW.drawL fit); (focus (decide +kernel))) | ((with_reducible apply InBlk.n)) | ((with_reducible apply AW.skip)) | ((with_reducible apply AW.condT); exact rfl; (focus ((simp only [decide_eq_true_eq, decide_eq_false_iff_not, Bool.not_eq_true', Bool.not_eq_false', Bool.not_true, Bool.not_false]; first | assumption | omega))))))
      refine ⟨_, _, ?_, (by repeat (first | exact trivial | (refine And.intro rfl ?_))), v, rfl, by omega, by omega, rfl, ?_⟩
      · omega
      · show St m r kd s (swp row (a + v + 1) (a + v)) = _
        rw [swp_comm _ _ _ (by omega), hsw, hx]
        simp
    · (repeat (first | (with_reducible refine AWo.cons ?_) | ((with_reducible refine Step.id ?_); first | ((with_reducible apply Step.move); exact rfl; exact rfl) | ((with_reducible apply Step.gtr); exact rfl; exact rfl; exact rfl)) | (with_reducible refine AWo.nil ?_) | ((with_reducible apply AW.seq)) | ((with_reducible apply Then.n)) | ((with_reducible apply AW.regL)) | ((with_reducible apply AW.exit)) | ((with_reducible apply InBlk.hit)) | ((with_reducible apply Then.e)) | ((with_reducible apply AW.condF); exact rfl; (focus ((simp only [decide_eq_true_eq, decide_eq_false_iff_not, Bool.not_eq_true', Bool.not_eq_false', Bool.not_true, Bool.not_false]; first | assumption | omega))))))
      (refine AW.ret ?_; (repeat (first | refine Then.r ?_ | refine InBlk.r ?_)))
      refine ⟨_, rfl, rfl, ?_⟩
      obtain rfl : v = q := by omega
      rw [hres]
      simp
end
end Go.Proofs.YtedbjmgchfgabaaDoor.Abs.Jb
namespace Go.Proofs.YtedbjmgchfgabaaDoor.Abs.Jb
set_option linter.unusedSimpArgs false
set_option linter.unusedVariables false
open Go.RowKit
open Go.Proofs.YtedbjmgchfgabaaDoor.Sim
open Go.Proofs
section
variable {m : AM} {r s : Nat} {kd : Kind} {le : Int → Int → Bool} {c : Int → Int → Int} {p : Int → Prop} {g : FuncId} {cap : Array Value} {fn : Func} {bd : Code}
set_option maxHeartbeats 4000000 in
set_option maxRecDepth 100000 in
theorem f129_ok (hC : CmpOk m r s kd c p g cap) (hT : TO le) (hf : Tryd.prog.funcs[g]? = some fn) (hb : fn.body = some bd) (n : Nat) (hlim : n ≤ 1000000) : ∀ (N a b d : Nat) (P A B W : List Int), A.length + B.length ≤ N → P.length = a → a + A.length = b → b + B.length = d → 0 < A.length → 0 < B.length → (P ++ A ++ B ++ W).length = n →
    (∀ x ∈ A, p x) → (∀ x ∈ B, p x) → (∀ x ∈ A, ∀ y ∈ B, Cross le c x y) → Srt le A → Srt le B →
    ACall Tryd.prog 124 #[.slice (some ⟨r, 0, none⟩) n n, .int .i64 (a : Nat), .int .i64 (b : Nat), .int .i64 (d : Nat), .func (.func g) #[] cap] (St m r kd s (P ++ A ++ B ++ W)) (Ret (.tuple #[]) (St m r kd s (P ++ ms le (A ++ B) ++ W))) := by
  intro N
  induction N with
  | zero => intros; omega
  | succ N ih =>
  intro a b d P A B W hN ha hab hbd hA hB hn hpA hpB hX hsA hsB
  by_cases hA1 : A.length = 1
  · obtain ⟨x, rfl⟩ : ∃ x, A = [x] := List.length_eq_one_iff.1 hA1
    exact f129_l hC hT hf hb a b d n P B W x ha (by simpa using hab) hbd hB hn hlim (hpA x (by simp)) hpB (fun y hy => hX x (by simp) y hy) hsB
  by_cases hB1 : B.length = 1
  · obtain ⟨y, rfl⟩ : ∃ y, B = [y] := List.length_eq_one_iff.1 hB1
    subst hab
    simp only [List.length_cons, List.length_nil] at hbd
    subst hbd
    exact f129_r hC hT hf hb a n P A W y ha (by omega) hn hlim (hpB y (by simp)) hpA (fun x hx => hX x hx y (by simp)) hsA
  subst hab
  subst hbd
  have hr := hC.hr; have hkd := hC.hkd
  have hlen : P.length + A.length + B.length + W.length = n := by rw [← hn]; simp only [List.length_append]
  obtain ⟨h, hh⟩ : ∃ h, h = (A.length + B.length) / 2 := ⟨_, rfl⟩
  refine ACall.intro Tryd.func124 rfl (Nat.le_of_ble_eq_true rfl) ?_
  have e1 : ((a : Nat) : Int) + ((a + A.length + B.length : Nat) : Int) = ((a + (a + A.length + B.length) : Nat) : Int) := by omega
  have e2 : ((a + (a + A.length + B.length) : Nat) : Int) / 2 = ((a + h : Nat) : Int) := by omega
  have e3 : ((a + h : Nat) : Int) + ((a + A.length : Nat) : Int) = ((a + h + (a + A.length) : Nat) : Int) := by omega
  have e5 : ((a + h + (a + A.length) : Nat) : Int) - 1 = ((a + h + (a + A.length) - 1 : Nat) : Int) := by omega
  have e6 : h - B.length + B.length = h ∨ h ≤ B.length := by omega
  (repeat (first | (with_reducible refine AWo.cons ?_) | ((with_reducible refine Step.id ?_); first | ((with_reducible apply Step.move); exact rfl; exact rfl) | ((with_reducible apply Step.assign); exact rfl; exact rfl) | ((with_reducible apply Step.addE); exact rfl; exact rfl; (focus (assumption)); (focus (omega)); exact rfl) | ((with_reducible apply Step.halfE); exact rfl; exact rfl; (focus (assumption)); (focus (omega)); exact rfl) | ((with_reducible apply Step.toU); exact rfl; exact un3i; exact un46u; (focus (omega)); exact rfl) | ((with_reducible apply Step.toI); exact rfl; exact un46u; exact un3i; (focus (omega)); exact rfl) | ((with_reducible apply Step.sub); exact rfl; exact rfl; (focus (omega)); exact rfl) | ((with_reducible apply Step.gtr); exact rfl; exact rfl; exact rfl) | ((with_reducible apply Step.eql); exact rfl; exact rfl; exact rfl)) | (with_reducible refine AWo.nil ?_) | ((with_reducible apply AW.seq)) | ((with_reducible apply Then.n)) | ((with_reducible apply AW.regL)) | ((with_reducible apply AW.skip)) | ((with_reducible apply AW.condF); exact rfl; (focus ((simp only [decide_eq_true_eq, decide_eq_false_iff_not, Bool.not_eq_true', Bool.not_eq_false', Bool.not_true, Bool.not_false]; first | assumption | omega))))))
  refine AW.join (fun t M => ∃ q w : Nat, h - B.length = q ∧ w = min A.length h ∧ All (fun i v => t i = some v) [(0, .slice (some ⟨r, 0, none⟩) n n), (1, .int .i64 (a : Nat)), (2, .int .i64 ((a + A.length : Nat) : Int)), (3, .int .i64 ((a + A.length + B.length : Nat) : Int)), (4, .func (.func g) #[] cap), (18, .int .i64 ((a + h : Nat) : Int)), (19, .int .i64 ((a + h + (a + A.length) : Nat) : Int)), (20, .int .i64 ((a + q : Nat) : Int)), (21, .int .i64 ((a + w : Nat) : Int))] ∧
    M = St m r kd s (P ++ A ++ B ++ W)) ?_ ?_
  · rcases Nat.lt_or_ge h A.length with hc | hc
    · have e4 : ((a + h + (a + A.length) : Nat) : Int) - ((a + A.length + B.length : Nat) : Int) = ((a + (h - B.length) : Nat) : Int) := by omega
      (repeat (first | (with_reducible refine AWo.cons ?_) | ((with_reducible refine Step.id ?_); first | ((with_reducible apply Step.move); exact rfl; exact rfl) | ((with_reducible apply Step.assign); exact rfl; exact rfl) | ((with_reducible apply Step.subE); exact rfl; exact rfl; (focus (assumption)); (focus (omega)); exact rfl)) | (with_reducible refine AWo.nil ?_) | ((with_reducible apply AW.seq)) | ((with_reducible apply Then.n)) | ((with_reducible apply AW.regL)) | ((with_reducible apply AW.condT); exact rfl; (focus ((simp only [decide_eq_true_eq, decide_eq_false_iff_not, Bool.not_eq_true', Bool.not_eq_false', Bool.not_true, Bool.not_false]; first | assumption | omega))))))
      exact ⟨h - B.length, h, rfl, by omega, (by repeat (first | exact trivial | (refine And.intro rfl ?_))), rfl⟩
    · (repeat (first | (with_reducible refine AWo.cons ?_) | ((with_reducible refine Step.id ?_); first | ((with_reducible apply Step.move); exact rfl; exact rfl) | ((with_reducible apply Step.assign); exact rfl; exact rfl)) | (with_reducible refine AWo.nil ?_) | ((with_reducible apply AW.seq)) | ((with_reducible apply Then.n)) | ((with_reducible apply AW.regL)) | ((with_reducible apply AW.condF); exact rfl; (focus ((simp only [decide_eq_true_eq, decide_eq_false_iff_not, Bool.not_eq_true', Bool.not_eq_false', Bool.not_true, Bool.not_false]; first | assumption | omega))))))
      exact ⟨0, A.length, by omega, by omega, (by repeat (first | exact trivial | (refine And.intro rfl ?_))), rfl⟩
  rintro t M ⟨q0, w0, hq0, hw0, hall, rfl⟩
  refine AW.weak (fr_all hall) ?_
  (repeat (first | (with_reducible refine AWo.cons ?_) | ((with_reducible refine Step.id ?_); first | ((with_reducible apply Step.move); exact rfl; exact rfl) | ((with_reducible apply Step.assign); exact rfl; exact rfl) | ((with_reducible apply Step.subE); exact rfl; exact rfl; (focus (assumption)); (focus (omega)); exact rfl)) | (with_reducible refine AWo.nil ?_) | ((with_reducible apply AW.seq)) | ((with_reducible apply Then.n)) | ((with_reducible apply AW.regL)) | ((with_reducible apply AW.block))))
  refine AW.loopW (fun u t M => ∃ (q w : Nat), u = w - q ∧ h - B.length ≤ q ∧ q ≤ w ∧ w ≤ min A.length h ∧ (∀ k, h - B.length ≤ k → k < q → le (A.getD k 0) (B.getD (h - 1 - k) 0) = true) ∧ (∀ k, w ≤ k → k < min A.length h → le (A.getD k 0) (B.getD (h - 1 - k) 0) = false) ∧
    t = fr [(0, .slice (some ⟨r, 0, none⟩) n n), (1, .int .i64 (a : Nat)), (2, .int .i64 ((a + A.length : Nat) : Int)), (3, .int .i64 ((a + A.length + B.length : Nat) : Int)), (4, .func (.func g) #[] cap), (18, .int .i64 ((a + h : Nat) : Int)), (19, .int .i64 ((a + h + (a + A.length) : Nat) : Int)), (20, .int .i64 ((a + q : Nat) : Int)), (21, .int .i64 ((a + w : Nat) : Int)), (22, .int .i64 ((a + h + (a + A.length) - 1 : Nat) : Int))] ∧
    M = St m r kd s (P ++ A ++ B ++ W)) ⟨_, _, (by repeat (first | exact trivial | (refine And.intro rfl ?_))), q0, w0, rfl, by omega, by omega, by omega, by omega, by omega, rfl, rfl⟩ ?_
  rintro u t M ⟨q, w, rfl, hq1, hqw, hw, h1, h2, rfl, rfl⟩
  rcases Nat.lt_or_ge q w with hlt | hge
  · obtain ⟨k, hk⟩ : ∃ k, k = (q + w) / 2 := ⟨_, rfl⟩
    have f1 : ((a + q : Nat) : Int) + ((a + w : Nat) : Int) = ((a + q + (a + w) : Nat) : Int) := by omega
    have f2 : ((a + q + (a + w) : Nat) : Int) / 2 = ((a + k : Nat) : Int) := by omega
    have f3 : ((a + h + (a + A.length) - 1 : Nat) : Int) - ((a + k : Nat) : Int) = ((a + A.length + (h - 1 - k) : Nat) : Int) := by omega
    have r1 : Rd (St m r kd s (P ++ A ++ B ++ W)) r (a + k) (.int .i64 (A.getD k 0)) := by rw [← get_mid (B := B) (W := W) ha (show k < A.length by omega)]; exact St.rd hr (by omega)
    have r2 : Rd (St m r kd s (P ++ A ++ B ++ W)) r (a + A.length + (h - 1 - k)) (.int .i64 (B.getD (h - 1 - k) 0)) := by rw [← get_right (P := P) (A := A) (W := W) (a := a + A.length) (by rw [List.length_append]; omega) (show h - 1 - k < B.length by omega)]; exact St.rd hr (by omega)
    have hmA : A.getD k 0 ∈ A := by simp [show k < A.length by omega]
    have hmB : B.getD (h - 1 - k) 0 ∈ B := by simp [show h - 1 - k < B.length by omega]
    have hc := hC.call (P ++ A ++ B ++ W) (B.getD (h - 1 - k) 0) (A.getD k 0) (hpB _ hmB) (hpA _ hmA)
    have hx := hX _ hmA _ hmB
    have mA : ∀ i j, i ≤ j → j < A.length → le (A.getD i 0) (A.getD j 0) = true := fun i j h1 h2 => srt_getE hT hsA h1 h2
    have mB : ∀ i j, i ≤ j → j < B.length → le (B.getD i 0) (B.getD j 0) = true := fun i j h1 h2 => srt_getE hT hsB h1 h2
    by_cases hlt2 : c (B.getD (h - 1 - k) 0) (A.getD k 0) < 0
    · have hxf := hx.1 hlt2
      generalize (P ++ A ++ B ++ W) = row at *
      (repeat (first | (with_reducible refine AWo.cons ?_) | ((with_reducible refine Step.id ?_); first | ((with_reducible apply Step.move); exact rfl; exact rfl) | ((with_reducible apply Step.assign); exact rfl; exact rfl) | ((with_reducible apply Step.load); exact rfl; (focus (decide +kernel)); exact rfl; (focus (assumption))) | ((with_reducible apply Step.ix1z); exact rfl; (focus (exact Sl.mk (by omega))); exact rfl; (focus (decide +kernel)); exact rfl; (focus (omega))) | ((with_reducible apply Step.addE); exact rfl; exact rfl; (focus (assumption)); (focus (omega)); exact rfl) | ((with_reducible apply Step.subE); exact rfl; exact rfl; (focus (assumption)); (focus (omega)); exact rfl) | ((with_reducible apply Step.halfE); exact rfl; exact rfl; (focus (assumption)); (focus (omega)); exact rfl) | ((with_reducible apply Step.toU); exact rfl; exact un3i; exact un46u; (focus (omega)); exact rfl) | ((with_reducible apply Step.toI); exact rfl; exact un46u; exact un3i; (focus (omega)); exact rfl) | ((with_reducible apply Step.lss); exact rfl; exact rfl; exact rfl) | ((with_reducible apply Step.not); exact rfl; exact rfl) | ((with_reducible apply Step.callV fit); exact rfl; exact rfl; exact hf; exact hb; exact rfl; exact (hc))) | (with_reducible refine AWo.nil ?_) | ((with_reducible apply AW.seq)) | ((with_reducible apply Then.n)) | ((with_reducible apply AW.regL)) | ((with_reducible apply AW.block)) | ((with_reducible apply AW.drawL fit); (focus (decide +kernel))) | ((with_reducible apply InBlk.n)) | ((with_reducible apply AW.skip)) | ((with_reducible apply AW.condT); exact rfl; (focus ((simp only [decide_eq_true_eq, decide_eq_false_iff_not, Bool.not_eq_true', Bool.not_eq_false', Bool.not_true, Bool.not_false]; first | assumption | omega)))) | ((with_reducible apply AW.condF); exact rfl; (focus ((simp only [decide_eq_true_eq, decide_eq_false_iff_not, Bool.not_eq_true', Bool.not_eq_false', Bool.not_true, Bool.not_false]; first | assumption | omega))))))
      refine ⟨_, _, ?_, (by repeat (first | exact trivial | (refine And.intro rfl ?_))), q, k, rfl, by omega, by omega, by omega, h1, fun j hj hj2 => ?_, rfl, rfl⟩
      · omega
      · cases hq : le (A.getD j 0) (B.getD (h - 1 - j) 0) with
        | false => rfl
        | true => rw [hT.tr _ _ _ (mA k j hj (by omega)) (hT.tr _ _ _ hq (mB (h - 1 - j) (h - 1 - k) (by omega) (by omega)))] at hxf; cases hxf
    · have hxt : le (A.getD k 0) (B.getD (h - 1 - k) 0) = true := by
        cases hq : le (A.getD k 0) (B.getD (h - 1 - k) 0) with
        | true => rfl
        | false => exact absurd (hx.2 hq) hlt2
      generalize (P ++ A ++ B ++ W) = row at *
      (repeat (first | (with_reducible refine AWo.cons ?_) | ((with_reducible refine Step.id ?_); first | ((with_reducible apply Step.move); exact rfl; exact rfl) | ((with_reducible apply Step.assign); exact rfl; exact rfl) | ((with_reducible apply Step.load); exact rfl; (focus (decide +kernel)); exact rfl; (focus (assumption))) | ((with_reducible apply Step.ix1z); exact rfl; (focus (exact Sl.mk (by omega))); exact rfl; (focus (decide +kernel)); exact rfl; (focus (omega))) | ((with_reducible apply Step.addE); exact rfl; exact rfl; (focus (assumption)); (focus (omega)); exact rfl) | ((with_reducible apply Step.subE); exact rfl; exact rfl; (focus (assumption)); (focus (omega)); exact rfl) | ((with_reducible apply Step.halfE); exact rfl; exact rfl; (focus (assumption)); (focus (omega)); exact rfl) | ((with_reducible apply Step.toU); exact rfl; exact un3i; exact un46u; (focus (omega)); exact rfl) | ((with_reducible apply Step.toI); exact rfl; exact un46u; exact un3i; (focus (omega)); exact rfl) | ((with_reducible apply Step.add); exact rfl; exact rfl; (focus (omega)); exact rfl) | ((with_reducible apply Step.lss); exact rfl; exact rfl; exact rfl) | ((with_reducible apply Step.not); exact rfl; exact rfl) | ((with_reducible apply Step.callV fit); exact rfl; exact rfl; exact hf; exact hb; exact rfl; exact (hc))) | (with_reducible refine AWo.nil ?_) | ((with_reducible apply AW.seq)) | ((with_reducible apply Then.n)) | ((with_reducible apply AW.regL)) | ((with_reducible apply AW.block)) | ((with_reducible apply AW.drawL fit); (focus (decide +kernel))) | ((with_reducible apply InBlk.n)) | ((with_reducible apply AW.skip)) | ((with_reducible apply AW.condT); exact rfl; (focus ((simp only [decide_eq_true_eq, decide_eq_false_iff_not, Bool.not_eq_true', Bool.not_eq_false', Bool.not_true, Bool.not_false]; first | assumption | omega))))))
      refine ⟨_, _, ?_, (by repeat (first | exact trivial | (refine And.intro rfl ?_))), k + 1, w, rfl, by omega, by omega, hw, fun j hj hj2 => ?_, h2, rfl, rfl⟩
      · omega
      · exact hT.tr _ _ _ (mA j k (by omega) (by omega)) (hT.tr _ _ _ hxt (mB (h - 1 - k) (h - 1 - j) (by omega) (by omega)))
  · obtain rfl : q = w := by omega
    clear e1 e2 e3 e5 e6 hall hq0 hw0
    have hcut := sym_cut hT hsA hsB hq1 hw h1 h2
    obtain ⟨A1, hA1'⟩ : ∃ A1, A1 = A.take q := ⟨_, rfl⟩
    obtain ⟨A2, hA2'⟩ : ∃ A2, A2 = A.drop q := ⟨_, rfl⟩
    obtain ⟨B1, hB1'⟩ : ∃ B1, B1 = B.take (h - q) := ⟨_, rfl⟩
    obtain ⟨B2, hB2'⟩ : ∃ B2, B2 = B.drop (h - q) := ⟨_, rfl⟩
    have hAA : A = A1 ++ A2 := by rw [hA1', hA2', List.take_append_drop]
    have hBB : B = B1 ++ B2 := by rw [hB1', hB2', List.take_append_drop]
    have lA1 : A1.length = q := by rw [hA1']; simp; omega
    have lB1 : B1.length = h - q := by rw [hB1']; simp; omega
    rw [← hA1', ← hA2', ← hB1', ← hB2'] at hcut
    clear hA1' hA2' hB1' hB2' h1 h2
    have lA2 : A2.length + q = A.length := by rw [hAA, List.length_append]; omega
    have lB2 : B2.length + (h - q) = B.length := by rw [hBB, List.length_append]; omega
    have sA1 : Srt le A1 ∧ Srt le A2 := by rw [hAA] at hsA; exact ⟨(List.pairwise_append.1 hsA).1, (List.pairwise_append.1 hsA).2.1⟩
    have sB1 : Srt le B1 ∧ Srt le B2 := by rw [hBB] at hsB; exact ⟨(List.pairwise_append.1 hsB).1, (List.pairwise_append.1 hsB).2.1⟩
    have mA1 : ∀ x ∈ A1, x ∈ A := fun x hx => by rw [hAA]; simp [hx]
    have mA2 : ∀ x ∈ A2, x ∈ A := fun x hx => by rw [hAA]; simp [hx]
    have mB1 : ∀ x ∈ B1, x ∈ B := fun x hx => by rw [hBB]; simp [hx]
    have mB2 : ∀ x ∈ B2, x ∈ B := fun x hx => by rw [hBB]; simp [hx]
    obtain ⟨r0, hr0⟩ : ∃ r0, r0 = P ++ A ++ B ++ W := ⟨_, rfl⟩
    obtain ⟨r1, hr1⟩ : ∃ r1, r1 = P ++ A1 ++ B1 ++ (A2 ++ B2 ++ W) := ⟨_, rfl⟩
    obtain ⟨r2, hr2⟩ : ∃ r2, r2 = (P ++ ms le (A1 ++ B1)) ++ A2 ++ B2 ++ W := ⟨_, rfl⟩
    obtain ⟨r3, hr3⟩ : ∃ r3, r3 = P ++ ms le (A ++ B) ++ W := ⟨_, rfl⟩
    have hr2' : r2 = P ++ ms le (A1 ++ B1) ++ (A2 ++ B2 ++ W) := by rw [hr2]; simp
    have hr3' : r3 = (P ++ ms le (A1 ++ B1)) ++ ms le (A2 ++ B2) ++ W := by rw [hr3, hcut]; simp
    have n1 : ¬(q < A.length ∧ q < h) → r0 = r1 := fun hno => by
      rw [hr0, hr1, hAA, hBB]
      rcases Nat.lt_or_ge q A.length with x1 | x1
      · obtain rfl : B1 = [] := List.eq_nil_of_length_eq_zero (by omega)
        simp
      · obtain rfl : A2 = [] := List.eq_nil_of_length_eq_zero (by omega)
        simp
    have n2 : ¬(0 < q ∧ q < h) → r1 = r2 := fun hno => by
      rw [hr1, hr2']
      rcases Nat.lt_or_ge 0 q with x1 | x1
      · obtain rfl : B1 = [] := List.eq_nil_of_length_eq_zero (by omega)
        simp only [List.append_nil]; rw [ms_self hT sA1.1]; try simp
      · obtain rfl : A1 = [] := List.eq_nil_of_length_eq_zero (by omega)
        simp only [List.nil_append]; rw [ms_self hT sB1.1]; try simp
    have n3 : ¬(q < A.length ∧ h - q < B.length) → r2 = r3 := fun hno => by
      rw [hr2, hr3']
      rcases Nat.lt_or_ge q A.length with x1 | x1
      · obtain rfl : B2 = [] := List.eq_nil_of_length_eq_zero (by omega)
        simp only [List.append_nil]; rw [ms_self hT sA1.2]; try simp
      · obtain rfl : A2 = [] := List.eq_nil_of_length_eq_zero (by omega)
        simp only [List.nil_append]; rw [ms_self hT sB1.2]; try simp
    have c1 : ∀ row, row = r0 → (q < A.length ∧ q < h) → ACall Tryd.prog 147 #[.slice (some ⟨r, 0, none⟩) n n, .int .i64 ((a + q : Nat) : Int), .int .i64 ((a + A.length : Nat) : Int), .int .i64 ((a + A.length + (h - q) : Nat) : Int), .func (.func g) #[] cap] (St m r kd s row) (Ret (.tuple #[]) (St m r kd s r1)) := fun row hrow hcc => by
      have hr0' : r0 = (P ++ A1) ++ A2 ++ B1 ++ (B2 ++ W) := by rw [hr0, hAA, hBB]; simp
      have hr1' : r1 = (P ++ A1) ++ B1 ++ A2 ++ (B2 ++ W) := by rw [hr1]; simp
      rw [hrow, hr0', hr1']
      exact f141_ok hr hkd _ _ _ n (P ++ A1) A2 B1 (B2 ++ W) (by rw [List.length_append]; omega) (by omega) (by omega) (by omega) (by omega) (by simp only [List.length_append]; omega) hlim
    have c2 : ∀ row, row = r1 → (0 < q ∧ q < h) → ACall Tryd.prog 124 #[.slice (some ⟨r, 0, none⟩) n n, .int .i64 (a : Nat), .int .i64 ((a + q : Nat) : Int), .int .i64 ((a + h : Nat) : Int), .func (.func g) #[] cap] (St m r kd s row) (Ret (.tuple #[]) (St m r kd s r2)) := fun row hrow hcc => by
      rw [hrow, hr1, hr2']
      exact ih a (a + q) (a + h) P A1 B1 (A2 ++ B2 ++ W) (by omega) ha (by omega) (by omega) (by omega) (by omega) (by simp only [List.length_append]; omega) (fun x hx => hpA x (mA1 x hx)) (fun x hx => hpB x (mB1 x hx)) (fun x hx y hy => hX x (mA1 x hx) y (mB1 y hy)) sA1.1 sB1.1
    have c3 : ∀ row, row = r2 → (q < A.length ∧ h - q < B.length) → ACall Tryd.prog 124 #[.slice (some ⟨r, 0, none⟩) n n, .int .i64 ((a + h : Nat) : Int), .int .i64 ((a + A.length + (h - q) : Nat) : Int), .int .i64 ((a + A.length + B.length : Nat) : Int), .func (.func g) #[] cap] (St m r kd s row) (Ret (.tuple #[]) (St m r kd s r3)) := fun row hrow hcc => by
      rw [hrow, hr2, hr3']
      exact ih (a + h) (a + A.length + (h - q)) (a + A.length + B.length) (P ++ ms le (A1 ++ B1)) A2 B2 W (by omega) (by rw [List.length_append, ms_len, List.length_append]; omega) (by omega) (by omega) (by omega) (by omega) (by simp only [List.length_append, ms_len]; omega) (fun x hx => hpA x (mA2 x hx)) (fun x hx => hpB x (mB2 x hx)) (fun x hx y hy => hX x (mA2 x hx) y (mB2 y hy)) sA1.2 sB1.2
    have g1 : ((a + h + (a + A.length) : Nat) : Int) - ((a + q : Nat) : Int) = ((a + A.length + (h - q) : Nat) : Int) := by omega
    rw [← hr0, ← hr3]
    clear hr0 hr1 hr2 hr3 hr2' hr3' hcut ih hX hpA hpB hn
    by_cases k1 : q < A.length <;> by_cases k2 : q < h <;> by_cases k3 : 0 < q <;> by_cases k4 : h - q < B.length
    all_goals first
      | (exfalso; omega)
      | ((repeat (first | (with_reducible refine AWo.cons ?_) | ((with_reducible refine Step.id ?_); first | ((with_reducible apply Step.gdT); exact rfl; exact rfl; (focus ((simp only [decide_eq_true_eq, decide_eq_false_iff_not, Bool.not_eq_true', Bool.not_eq_false', Bool.not_true, Bool.not_false]; first | assumption | omega)))) | ((with_reducible apply Step.gdF); exact rfl; exact rfl; (focus ((simp only [decide_eq_true_eq, decide_eq_false_iff_not, Bool.not_eq_true', Bool.not_eq_false', Bool.not_true, Bool.not_false]; first | assumption | omega)))) | ((with_reducible apply Step.move); exact rfl; exact rfl) | ((with_reducible apply Step.assign); exact rfl; exact rfl) | ((with_reducible apply Step.subE); exact rfl; exact rfl; (focus (assumption)); (focus (omega)); exact rfl) | ((with_reducible apply Step.lss); exact rfl; exact rfl; exact rfl) | ((with_reducible apply Step.pickT); exact rfl; exact rfl; exact rfl; exact rfl; (focus ((simp only [decide_eq_true_eq, decide_eq_false_iff_not, Bool.not_eq_true', Bool.not_eq_false', Bool.not_true, Bool.not_false]; first | assumption | omega)))) | ((with_reducible apply Step.pickF); exact rfl; exact rfl; exact rfl; exact rfl; (focus ((simp only [decide_eq_true_eq, decide_eq_false_iff_not, Bool.not_eq_true', Bool.not_eq_false', Bool.not_true, Bool.not_false]; first | assumption | omega)))) | ((with_reducible apply Step.callM fit); exact rfl; exact Tryd.func147; exact rfl; exact rfl; exact ((c1 _ rfl (by omega)))) | ((with_reducible apply Step.callM fit); exact rfl; exact Tryd.func124; exact rfl; exact rfl; exact ((c2 _ (by first | rfl | exact n1 (by omega)) (by omega)))) | ((with_reducible apply Step.callM fit); exact rfl; exact Tryd.func124; exact rfl; exact rfl; exact ((c3 _ (by first | rfl | exact n2 (by omega) | exact (n1 (by omega)).trans (n2 (by omega))) (by omega))))) | (with_reducible refine AWo.nil ?_) | ((with_reducible apply AW.seq)) | ((with_reducible apply Then.n)) | ((with_reducible apply AW.regL)) | ((with_reducible apply AW.exit)) | ((with_reducible apply InBlk.hit)) | ((with_reducible apply Then.e)) | ((with_reducible apply AW.skip)) | ((with_reducible apply AW.condT); exact rfl; (focus ((simp only [decide_eq_true_eq, decide_eq_false_iff_not, Bool.not_eq_true', Bool.not_eq_false', Bool.not_true, Bool.not_false]; first | assumption | omega)))) | ((with_reducible apply AW.condF); exact rfl; (focus (first | rfl | (simp only [decide_eq_true_eq, decide_eq_false_iff_not, Bool.not_eq_true', Bool.not_eq_false', Bool.not_true, Bool.not_false]; first | assumption | omega))))))
         refine ⟨_, rfl, rfl, ?_⟩
         first | rfl | (rw [n3 (by omega)]; done) | (rw [n2 (by omega), n3 (by omega)]; done) | (rw [n1 (by omega), n2 (by omega), n3 (by omega)]; done) | (rw [n2 (by omega)]; done))
end
end Go.Proofs.YtedbjmgchfgabaaDoor.Abs.Jb
namespace Go.Proofs.YtedbjmgchfgabaaDoor.Abs.Jb
set_option linter.unusedSimpArgs false
set_option linter.unusedVariables false
open Go.RowKit
open Go.Proofs.YtedbjmgchfgabaaDoor.Sim
open Go.Proofs
section
variable {m : AM} {r s : Nat} {kd : Kind} {le : Int → Int → Bool} {c : Int → Int → Int} {p : Int → Prop} {g : FuncId} {cap : Array Value} {fn : Func} {bd : Code}
theorem ms_nil : ms le [] = [] := by simp [ms]
set_option maxHeartbeats 4000000 in
set_option maxRecDepth 100000 in
theorem f122_ok (hC : CmpOk m r s kd c p g cap) (hT : TO le) (hf : Tryd.prog.funcs[g]? = some fn) (hb : fn.body = some bd) (n : Nat) (l : List Int) (hl : l.length = n) (hn : n ≤ 40) (hp : ∀ x ∈ l, p x) (hX : l.Pairwise (Cross le c)) :
    ACall Tryd.prog 104 #[.slice (some ⟨r, 0, none⟩) n n, .int .i64 (n : Nat), .func (.func g) #[] cap] (St m r kd s l) (Ret (.tuple #[]) (St m r kd s (ms le l))) := by
  have hr := hC.hr; have hkd := hC.hkd
  obtain ⟨T, hT'⟩ : ∃ T, T = l.take 20 := ⟨_, rfl⟩
  obtain ⟨D, hD'⟩ : ∃ D, D = l.drop 20 := ⟨_, rfl⟩
  have hTD : l = T ++ D := by rw [hT', hD', List.take_append_drop]
  have lT : T.length = min 20 n := by rw [hT']; simp; omega
  have lD : D.length = n - 20 := by rw [hD']; simp; omega
  clear hT' hD'
  subst hTD
  rw [List.pairwise_append] at hX
  obtain ⟨xT, xD, xTD⟩ := hX
  have pT : ∀ x ∈ T, p x := fun x hx => hp x (by simp [hx])
  have pD : ∀ x ∈ D, p x := fun x hx => hp x (by simp [hx])
  have i1 : 20 ≤ n → ACall Tryd.prog 123 #[.slice (some ⟨r, 0, none⟩) n n, .int .i64 ((0 : Nat) : Int), .int .i64 ((20 : Nat) : Int), .func (.func g) #[] cap] (St m r kd s (T ++ D)) (Ret (.tuple #[]) (St m r kd s (ms le T ++ D))) := fun h =>
    f128_ok hC hT hf hb 0 20 n [] T D rfl (by omega) hl (by omega) pT xT
  have i2 : n < 20 → ACall Tryd.prog 123 #[.slice (some ⟨r, 0, none⟩) n n, .int .i64 ((0 : Nat) : Int), .int .i64 (n : Nat), .func (.func g) #[] cap] (St m r kd s (T ++ D)) (Ret (.tuple #[]) (St m r kd s (ms le T ++ D))) := fun h =>
    f128_ok hC hT hf hb 0 n n [] T D rfl (by omega) hl (by omega) pT xT
  have i3 : 20 ≤ n → ACall Tryd.prog 123 #[.slice (some ⟨r, 0, none⟩) n n, .int .i64 ((20 : Nat) : Int), .int .i64 (n : Nat), .func (.func g) #[] cap] (St m r kd s (ms le T ++ D)) (Ret (.tuple #[]) (St m r kd s (ms le T ++ ms le D))) := fun h => by
    have := f128_ok hC hT hf hb 20 n n (ms le T) D [] (by rw [ms_len]; omega) (by omega) (by simp only [List.length_append, ms_len, List.length_nil]; omega) (by omega) pD xD
    simpa only [List.append_nil] using this
  have i4 : n = 40 → ACall Tryd.prog 123 #[.slice (some ⟨r, 0, none⟩) n n, .int .i64 ((40 : Nat) : Int), .int .i64 (n : Nat), .func (.func g) #[] cap] (St m r kd s (ms le T ++ ms le D)) (Ret (.tuple #[]) (St m r kd s (ms le T ++ ms le D))) := fun h => by
    have := f128_ok (le := le) hC hT hf hb 40 n n (ms le T ++ ms le D) [] [] (by simp only [List.length_append, ms_len]; omega) (by simp; omega) (by simp only [List.length_append, ms_len, List.length_nil]; omega) (by omega) (by simp) (by simp)
    simpa only [ms_nil, List.append_nil] using this
  have j1 : 20 < n → ACall Tryd.prog 124 #[.slice (some ⟨r, 0, none⟩) n n, .int .i64 ((0 : Nat) : Int), .int .i64 ((20 : Nat) : Int), .int .i64 (n : Nat), .func (.func g) #[] cap] (St m r kd s (ms le T ++ ms le D)) (Ret (.tuple #[]) (St m r kd s (ms le (T ++ D)))) := fun h => by
    have := f129_ok hC hT hf hb n (by omega) _ 0 20 n [] (ms le T) (ms le D) [] (Nat.le_refl _) rfl (by rw [ms_len]; omega) (by rw [ms_len]; omega) (by rw [ms_len]; omega) (by rw [ms_len]; omega) (by simp only [List.length_append, ms_len, List.length_nil]; omega)
      (fun x hx => pT x (ms_mem.1 hx)) (fun x hx => pD x (ms_mem.1 hx)) (fun x hx y hy => xTD x (ms_mem.1 hx) y (ms_mem.1 hy)) (ms_srt hT) (ms_srt hT)
    have e : ms le (ms le T ++ ms le D) = ms le (T ++ D) := ms_congr hT (List.Perm.append ms_perm ms_perm)
    rw [e] at this
    simpa only [List.append_nil, List.nil_append] using this
  have k1 : n ≤ 20 → ms le T ++ ms le D = ms le (T ++ D) := fun h => by
    obtain rfl : D = [] := List.eq_nil_of_length_eq_zero (by omega)
    simp [ms_nil]
  have k2 : n < 20 → ms le T ++ D = ms le T ++ ms le D := fun h => by
    obtain rfl : D = [] := List.eq_nil_of_length_eq_zero (by omega)
    simp [ms_nil]
  clear xT xD xTD pT pD hp
  refine ACall.intro Tryd.func104 rfl (Nat.le_of_ble_eq_true rfl) ?_
  (repeat (first | (with_reducible refine AWo.cons ?_) | ((with_reducible refine Step.id ?_); first | ((with_reducible apply Step.move); exact rfl; exact rfl) | ((with_reducible apply Step.assign); exact rfl; exact rfl)) | (with_reducible refine AWo.nil ?_) | ((with_reducible apply AW.seq)) | ((with_reducible apply Then.n)) | ((with_reducible apply AW.regL)) | ((with_reducible apply AW.block))))
  refine AW.loopW (fun u t M => ∃ (a : Nat) (row : List Int), u = 60 - a ∧ (a = 0 ∧ row = T ++ D ∨ a = 20 ∧ 20 ≤ n ∧ row = ms le T ++ D ∨ a = 40 ∧ n = 40 ∧ row = ms le T ++ ms le D) ∧
    t = fr [(0, .slice (some ⟨r, 0, none⟩) n n), (1, .int .i64 (n : Nat)), (2, .func (.func g) #[] cap), (6, .int .i64 20), (7, .int .i64 ((a : Nat) : Int)), (8, .int .i64 ((a + 20 : Nat) : Int))] ∧ M = St m r kd s row) ⟨_, _, (by repeat (first | exact trivial | (refine And.intro rfl ?_))), 0, _, rfl, .inl ⟨rfl, rfl⟩, rfl, rfl⟩ ?_
  rintro u t M ⟨a, row, rfl, hcase, rfl, rfl⟩
  have e1 : ((a + 20 : Nat) : Int) + 20 = ((a + 20 + 20 : Nat) : Int) := by omega
  by_cases hcont : a + 20 ≤ n
  · rcases hcase with ⟨rfl, rfl⟩ | ⟨rfl, _, rfl⟩ | ⟨rfl, _, rfl⟩
    · (repeat (first | (with_reducible refine AWo.cons ?_) | ((with_reducible refine Step.id ?_); first | ((with_reducible apply Step.move); exact rfl; exact rfl) | ((with_reducible apply Step.assign); exact rfl; exact rfl) | ((with_reducible apply Step.addE); exact rfl; exact rfl; (focus (assumption)); (focus (omega)); exact rfl) | ((with_reducible apply Step.leq); exact rfl; exact rfl; exact rfl) | ((with_reducible apply Step.callM fit); exact rfl; exact Tryd.func123; exact rfl; exact rfl; exact ((i1 (by omega))))) | (with_reducible refine AWo.nil ?_) | ((with_reducible apply AW.seq)) | ((with_reducible apply Then.n)) | ((with_reducible apply AW.regL)) | ((with_reducible apply AW.block)) | ((with_reducible apply InBlk.n)) | ((with_reducible apply AW.skip)) | ((with_reducible apply AW.condT); exact rfl; (focus ((simp only [decide_eq_true_eq, decide_eq_false_iff_not, Bool.not_eq_true', Bool.not_eq_false', Bool.not_true, Bool.not_false]; first | assumption | omega))))))
      exact ⟨_, _, by omega, (by repeat (first | exact trivial | (refine And.intro rfl ?_))), 20, _, rfl, .inr (.inl ⟨rfl, by omega, rfl⟩), rfl, rfl⟩
    · obtain rfl : n = 40 := by omega
      (repeat (first | (with_reducible refine AWo.cons ?_) | ((with_reducible refine Step.id ?_); first | ((with_reducible apply Step.move); exact rfl; exact rfl) | ((with_reducible apply Step.assign); exact rfl; exact rfl) | ((with_reducible apply Step.addE); exact rfl; exact rfl; (focus (assumption)); (focus (omega)); exact rfl) | ((with_reducible apply Step.leq); exact rfl; exact rfl; exact rfl) | ((with_reducible apply Step.callM fit); exact rfl; exact Tryd.func123; exact rfl; exact rfl; exact ((i3 (by omega))))) | (with_reducible refine AWo.nil ?_) | ((with_reducible apply AW.seq)) | ((with_reducible apply Then.n)) | ((with_reducible apply AW.regL)) | ((with_reducible apply AW.block)) | ((with_reducible apply InBlk.n)) | ((with_reducible apply AW.skip)) | ((with_reducible apply AW.condT); exact rfl; (focus (rfl)))))
      exact ⟨_, _, by omega, (by repeat (first | exact trivial | (refine And.intro rfl ?_))), 40, _, rfl, .inr (.inr ⟨rfl, rfl, rfl⟩), rfl, rfl⟩
    · omega
  · have fin : ∀ K : AM → Prop, (∀ row, row = ms le T ++ ms le D → K (St m r kd s row)) → K (St m r kd s (ms le T ++ ms le D)) := fun K h => h _ rfl
    have ins : ∃ row', ACall Tryd.prog 123 #[.slice (some ⟨r, 0, none⟩) n n, .int .i64 ((a : Nat) : Int), .int .i64 (n : Nat), .func (.func g) #[] cap] (St m r kd s row) (Ret (.tuple #[]) (St m r kd s row')) ∧ row' = ms le T ++ ms le D := by
      rcases hcase with ⟨rfl, rfl⟩ | ⟨rfl, _, rfl⟩ | ⟨rfl, _, rfl⟩
      · exact ⟨_, i2 (by omega), k2 (by omega)⟩
      · exact ⟨_, i3 (by omega), rfl⟩
      · exact ⟨_, i4 (by omega), rfl⟩
    obtain ⟨row', ins, hrow'⟩ := ins
    clear fin hcase
    (repeat (first | (with_reducible refine AWo.cons ?_) | ((with_reducible refine Step.id ?_); first | ((with_reducible apply Step.move); exact rfl; exact rfl) | ((with_reducible apply Step.leq); exact rfl; exact rfl; exact rfl) | ((with_reducible apply Step.callM fit); exact rfl; exact Tryd.func123; exact rfl; exact rfl; exact (ins))) | (with_reducible refine AWo.nil ?_) | ((with_reducible apply AW.seq)) | ((with_reducible apply Then.n)) | ((with_reducible apply AW.regL)) | ((with_reducible apply AW.block)) | ((with_reducible apply AW.exit)) | ((with_reducible apply InBlk.hit)) | ((with_reducible apply Then.e)) | ((with_reducible apply AW.condF); exact rfl; (focus ((simp only [decide_eq_true_eq, decide_eq_false_iff_not, Bool.not_eq_true', Bool.not_eq_false', Bool.not_true, Bool.not_false]; first | assumption | omega))))))
    refine AW.loopW (fun u t M => ∃ (bs : Nat) (row : List Int), u = 60 - bs ∧ (bs = 20 ∧ row = ms le T ++ ms le D ∨ bs = 40 ∧ row = ms le (T ++ D)) ∧
      t = fr [(0, .slice (some ⟨r, 0, none⟩) n n), (1, .int .i64 (n : Nat)), (2, .func (.func g) #[] cap), (6, .int .i64 ((bs : Nat) : Int))] ∧ M = St m r kd s row) ⟨_, _, (by repeat (first | exact trivial | (refine And.intro rfl ?_))), 20, _, rfl, .inl ⟨rfl, hrow'⟩, rfl, rfl⟩ ?_
    rintro u t M ⟨bs, row, rfl, hcase, rfl, rfl⟩
    by_cases hgo : bs < n
    · obtain ⟨rfl, rfl⟩ : bs = 20 ∧ row = ms le T ++ ms le D := by
        rcases hcase with h | ⟨h, _⟩
        · exact h
        · omega
      have e2 : (2 : Int) * ((20 : Nat) : Int) = ((40 : Nat) : Int) := by omega
      have e3 : ((20 : Nat) : Int) * (2 : Int) = ((40 : Nat) : Int) := by omega
      (repeat (first | (with_reducible refine AWo.cons ?_) | ((with_reducible refine Step.id ?_); first | ((with_reducible apply Step.move); exact rfl; exact rfl) | ((with_reducible apply Step.assign); exact rfl; exact rfl) | ((with_reducible apply Step.mulE); exact rfl; exact rfl; (focus (assumption)); (focus (omega)); exact rfl) | ((with_reducible apply Step.lss); exact rfl; exact rfl; exact rfl)) | (with_reducible refine AWo.nil ?_) | ((with_reducible apply AW.seq)) | ((with_reducible apply Then.n)) | ((with_reducible apply AW.regL)) | ((with_reducible apply AW.block)) | ((with_reducible apply AW.skip)) | ((with_reducible apply AW.condT); exact rfl; (focus ((simp only [decide_eq_true_eq, decide_eq_false_iff_not, Bool.not_eq_true', Bool.not_eq_false', Bool.not_true, Bool.not_false]; first | assumption | omega))))))
      refine AW.loopW (fun u t M => ∃ (a : Nat) (row : List Int), u = 60 - a ∧ (a = 0 ∧ row = ms le T ++ ms le D ∨ a = 40 ∧ n = 40 ∧ row = ms le (T ++ D)) ∧
        t = fr [(0, .slice (some ⟨r, 0, none⟩) n n), (1, .int .i64 (n : Nat)), (2, .func (.func g) #[] cap), (6, .int .i64 ((20 : Nat) : Int)), (7, .int .i64 ((a : Nat) : Int)), (8, .int .i64 ((a + 40 : Nat) : Int))] ∧ M = St m r kd s row) ⟨_, _, (by repeat (first | exact trivial | (refine And.intro rfl ?_))), 0, _, rfl, .inl ⟨rfl, rfl⟩, rfl, rfl⟩ ?_
      rintro u t M ⟨a, row, rfl, hcase, rfl, rfl⟩
      have e4 : ((a + 40 : Nat) : Int) + ((40 : Nat) : Int) = ((a + 40 + 40 : Nat) : Int) := by omega
      have e5 : ((a : Nat) : Int) + ((20 : Nat) : Int) = ((a + 20 : Nat) : Int) := by omega
      rcases hcase with ⟨rfl, rfl⟩ | ⟨rfl, h40, rfl⟩
      · by_cases h40 : n = 40
        · subst h40
          (repeat (first | (with_reducible refine AWo.cons ?_) | ((with_reducible refine Step.id ?_); first | ((with_reducible apply Step.move); exact rfl; exact rfl) | ((with_reducible apply Step.assign); exact rfl; exact rfl) | ((with_reducible apply Step.addE); exact rfl; exact rfl; (focus (assumption)); (focus (omega)); exact rfl) | ((with_reducible apply Step.mulE); exact rfl; exact rfl; (focus (assumption)); (focus (omega)); exact rfl) | ((with_reducible apply Step.leq); exact rfl; exact rfl; exact rfl) | ((with_reducible apply Step.callM fit); exact rfl; exact Tryd.func124; exact rfl; exact rfl; exact ((j1 (by omega))))) | (with_reducible refine AWo.nil ?_) | ((with_reducible apply AW.seq)) | ((with_reducible apply Then.n)) | ((with_reducible apply AW.regL)) | ((with_reducible apply AW.block)) | ((with_reducible apply InBlk.n)) | ((with_reducible apply AW.skip)) | ((with_reducible apply AW.condT); exact rfl; (focus (rfl)))))
          exact ⟨_, _, by omega, (by repeat (first | exact trivial | (refine And.intro rfl ?_))), 40, _, rfl, .inr ⟨rfl, rfl, rfl⟩, rfl, rfl⟩
        · (repeat (first | (with_reducible refine AWo.cons ?_) | ((with_reducible refine Step.id ?_); first | ((with_reducible apply Step.move); exact rfl; exact rfl) | ((with_reducible apply Step.assign); exact rfl; exact rfl) | ((with_reducible apply Step.addE); exact rfl; exact rfl; (focus (assumption)); (focus (omega)); exact rfl) | ((with_reducible apply Step.mulE); exact rfl; exact rfl; (focus (assumption)); (focus (omega)); exact rfl) | ((with_reducible apply Step.lss); exact rfl; exact rfl; exact rfl) | ((with_reducible apply Step.leq); exact rfl; exact rfl; exact rfl) | ((with_reducible apply Step.callM fit); exact rfl; exact Tryd.func124; exact rfl; exact rfl; exact ((j1 (by omega))))) | (with_reducible refine AWo.nil ?_) | ((with_reducible apply AW.seq)) | ((with_reducible apply Then.n)) | ((with_reducible apply AW.regL)) | ((with_reducible apply AW.exit)) | ((with_reducible apply InBlk.n)) | ((with_reducible apply InBlk.hit)) | ((with_reducible apply Then.e)) | ((with_reducible apply AW.condT); exact rfl; (focus ((simp only [decide_eq_true_eq, decide_eq_false_iff_not, Bool.not_eq_true', Bool.not_eq_false', Bool.not_true, Bool.not_false]; first | assumption | omega)))) | ((with_reducible apply AW.condF); exact rfl; (focus ((simp only [decide_eq_true_eq, decide_eq_false_iff_not, Bool.not_eq_true', Bool.not_eq_false', Bool.not_true, Bool.not_false]; first | assumption | omega))))))
          exact ⟨_, _, by omega, (by repeat (first | exact trivial | (refine And.intro rfl ?_))), 40, _, rfl, .inr ⟨rfl, rfl⟩, rfl, rfl⟩
      · (repeat (first | (with_reducible refine AWo.cons ?_) | ((with_reducible refine Step.id ?_); first | ((with_reducible apply Step.move); exact rfl; exact rfl) | ((with_reducible apply Step.assign); exact rfl; exact rfl) | ((with_reducible apply Step.addE); exact rfl; exact rfl; (focus (assumption)); (focus (omega)); exact rfl) | ((with_reducible apply Step.mulE); exact rfl; exact rfl; (focus (assumption)); (focus (omega)); exact rfl) | ((with_reducible apply Step.lss); exact rfl; exact rfl; exact rfl) | ((with_reducible apply Step.leq); exact rfl; exact rfl; exact rfl)) | (with_reducible refine AWo.nil ?_) | ((with_reducible apply AW.seq)) | ((with_reducible apply Then.n)) | ((with_reducible apply AW.regL)) | ((with_reducible apply AW.exit)) | ((with_reducible apply InBlk.n)) | ((with_reducible apply InBlk.hit)) | ((with_reducible apply Then.e)) | ((with_reducible apply AW.skip)) | ((with_reducible apply AW.condF); exact rfl; (focus ((simp only [decide_eq_true_eq, decide_eq_false_iff_not, Bool.not_eq_true', Bool.not_eq_false', Bool.not_true, Bool.not_false]; first | assumption | omega))))))
        exact ⟨_, _, by omega, (by repeat (first | exact trivial | (refine And.intro rfl ?_))), 40, _, rfl, .inr ⟨rfl, rfl⟩, rfl, rfl⟩
    · (repeat (first | (with_reducible refine AWo.cons ?_) | ((with_reducible refine Step.id ?_); first | ((with_reducible apply Step.move); exact rfl; exact rfl) | ((with_reducible apply Step.lss); exact rfl; exact rfl; exact rfl)) | (with_reducible refine AWo.nil ?_) | ((with_reducible apply AW.seq)) | ((with_reducible apply Then.n)) | ((with_reducible apply AW.regL)) | ((with_reducible apply AW.exit)) | ((with_reducible apply InBlk.hit)) | ((with_reducible apply Then.e)) | ((with_reducible apply AW.condF); exact rfl; (focus ((simp only [decide_eq_true_eq, decide_eq_false_iff_not, Bool.not_eq_true', Bool.not_eq_false', Bool.not_true, Bool.not_false]; first | assumption | omega))))))
      refine ⟨_, rfl, rfl, ?_⟩
      rcases hcase with ⟨rfl, rfl⟩ | ⟨rfl, rfl⟩
      · rw [k1 (by omega)]
      · rfl
set_option maxRecDepth 100000 in
theorem stable_ok (hC : CmpOk m r s kd c p g cap) (hT : TO le) (hf : Tryd.prog.funcs[g]? = some fn) (hb : fn.body = some bd) (n : Nat) (l : List Int) (hl : l.length = n) (hn : n ≤ 40) (hp : ∀ x ∈ l, p x) (hX : l.Pairwise (Cross le c)) :
    ACall Tryd.prog 83 #[.slice (some ⟨r, 0, none⟩) n n, .func (.func g) #[] cap] (St m r kd s l) (Ret (.tuple #[]) (St m r kd s (ms le l))) := by
  refine ACall.intro Tryd.func83 rfl (Nat.le_of_ble_eq_true rfl) ?_
  (repeat (first | (with_reducible refine AWo.cons ?_) | ((with_reducible refine Step.id ?_); first | ((with_reducible apply Step.move); exact rfl; exact rfl) | ((with_reducible apply Step.len); exact rfl; (focus (exact Sl.mk (by omega))); (focus (decide +kernel)); exact rfl) | ((with_reducible apply Step.callM fit); exact rfl; exact Tryd.func104; exact rfl; exact rfl; exact ((f122_ok hC hT hf hb n l hl hn hp hX)))) | (with_reducible refine AWo.nil ?_) | ((with_reducible apply AW.regL))))
  exact ⟨_, rfl, rfl, rfl⟩
end
end Go.Proofs.YtedbjmgchfgabaaDoor.Abs.Jb
namespace Go.Proofs.YtedbjmgchfgabaaDoor.Abs
set_option linter.unusedSimpArgs false
set_option linter.unusedVariables false
open Go.RowKit
open Go.Proofs.YtedbjmgchfgabaaDoor.Sim
/-- A tree of orders. -/
inductive PT where
  | done
  | step (i : Nat) (rest : PT)
  | both (a b : PT)
deriving DecidableEq
def forkT (g : Nat → Option PT) : List Nat → Option PT
  | [] => none
  | [i] => (g i).map (.step i)
  | i :: rs => match g i, forkT g rs with
    | some a, some b => some (.both (.step i a) b)
    | _, _ => none
def planT (P : Program) (ops : Array Oper) : Nat → Array Bool → Option PT
  | 0, listed => match Region.ready .any ops listed with
    | [] => some .done
    | _ => none
  | f + 1, listed => match Region.ready .any ops listed with
    | [] => some .done
    | rs => match rs.find? (takeB P ops listed) with
      | some i => (planT P ops f (listed.setIfInBounds i true)).map (.step i)
      | none => forkT (fun i => planT P ops f (listed.setIfInBounds i true)) rs
def AWt (P : Program) (nt : Nat) (l : List Oper) (Q : Fm → AM → Prop) : PT → Fm → AM → Prop
  | .done, t, m => Q t m
  | .step i rest, t, m => ∃ o, l[i]? = some o ∧ Step P nt l.toArray o t m (fun t m => AWt P nt l Q rest t m)
  | .both a b, t, m => AWt P nt l Q a t m ∧ AWt P nt l Q b t m
section
variable {P : Program} {nt : Nat} {t : Fm} {m m0 : AM} {Q : Fm → AM → Prop} {l : List Oper}
theorem forkT_ok {g : Nat → Option PT} : ∀ {rs : List Nat} {T : PT}, forkT g rs = some T → AWt P nt l Q T t m → ∀ i ∈ rs, ∃ a, g i = some a ∧ AWt P nt l Q (.step i a) t m
  | [], _, h, _, i, hi => by cases hi
  | [j], T, h, H, i, hi => by
    simp only [forkT, Option.map_eq_some_iff] at h
    obtain ⟨a, h1, rfl⟩ := h
    obtain rfl : i = j := by simpa using hi
    exact ⟨a, h1, H⟩
  | j :: k :: rs, T, h, H, i, hi => by
    simp only [forkT] at h
    split at h
    · rename_i a b h1 h2
      injection h with h; subst h
      rcases List.mem_cons.1 hi with rfl | hi
      · exact ⟨a, h1, H.1⟩
      · exact forkT_ok h2 H.2 i hi
    · cases h
theorem planT_ok : ∀ (f : Nat) (listed : Array Bool) (T : PT) (t : Fm) (m : AM), listed.size = l.toArray.size → planT P l.toArray f listed = some T → AWt P nt l Q T t m → AWd P nt l.toArray Q f listed t m
  | 0, listed, T, t, m, hsz, h, H => by
    unfold planT at h
    split at h
    · rename_i hr
      injection h with h; subst h
      exact ⟨hr, H⟩
    · cases h
  | f + 1, listed, T, t, m, hsz, h, H => by
    unfold planT at h
    split at h
    · rename_i hr
      injection h with h; subst h
      exact ⟨fun _ => H, fun i hi => by rw [hr] at hi; cases hi⟩
    · rename_i hne
      split at h
      · rename_i i hfind
        cases hp : planT P l.toArray f (listed.setIfInBounds i true) with
        | none => rw [hp] at h; cases h
        | some T' =>
          rw [hp] at h
          simp only [Option.map_some, Option.some.injEq] at h
          subst h
          obtain ⟨o, ho', hs⟩ := H
          have ho : l.toArray[i]? = some o := by simpa using ho'
          have hr := List.mem_of_find?_eq_some hfind
          have ht := List.find?_some hfind
          unfold takeB at ht
          rw [ho] at ht
          simp only [Bool.and_eq_true] at ht
          obtain ⟨t1, t2⟩ := ht
          obtain ⟨v, hy, hk⟩ := hs.still t1
          have hih := planT_ok f _ _ _ _ (by simpa using hsz) hp hk
          generalize closeC l.toArray i l.toArray.size listed = C at t2
          unfold takeC at t2
          rw [List.all_eq_true] at t2
          have each : ∀ (j : Nat) (oj : Oper), l.toArray[j]? = some oj → _ := fun j oj hj => by
            have := t2 j (List.mem_range.2 (Array.getElem?_eq_some_iff.1 hj).1)
            rw [hj] at this
            exact this
          simp only [Bool.and_eq_true, Bool.or_eq_true] at each
          refine AWd.take ho hs.1 C listed (fun j oj hj hc hne => ?_) (fun j oj hj hc hl hne => ?_) f listed t m (fun j hj => ?_) (fun _ h => h) hr hy hih
          · have h1 := (each j oj hj).2
            rcases h1 with h1 | h1
            · exact absurd (Nat.eq_of_beq_eq_true h1) hne
            · rw [hc] at h1
              simp only at h1
              obtain ⟨e, he, hb⟩ := Array.any_eq_true'.1 h1
              simp only [Bool.and_eq_true, Bool.not_eq_true'] at hb
              exact ⟨e, he, hb.1, hb.2⟩
          · have h1 := (each j oj hj).2
            rcases h1 with h1 | h1
            · exact absurd (Nat.eq_of_beq_eq_true h1) hne
            · rw [hc] at h1
              simp only [hl, Bool.false_or, Bool.and_eq_true, Bool.or_eq_true] at h1
              exact h1
          · have hlt : j < l.toArray.size := by
              rw [← hsz]
              rcases Nat.lt_or_ge j listed.size with h' | h'
              · exact h'
              · simp [Array.getElem?_eq_none h'] at hj
            have h1 := (each j l.toArray[j] (Array.getElem?_eq_getElem hlt)).1
            rw [hj] at h1
            simpa using h1
      · refine ⟨fun h0 => absurd h0 hne, fun j hj oj hoj => ?_⟩
        obtain ⟨a, ha, o, ho', hs⟩ := forkT_ok h H j hj
        have ho : l.toArray[j]? = some o := by simpa using ho'
        rw [ho] at hoj; injection hoj with hoj; subst hoj
        exact hs.mono fun v m' hk => planT_ok f _ _ _ _ (by simpa using hsz) ha hk
def treeB (P : Program) (ops : Array Oper) (T : PT) : Bool := match planT P ops ops.size (Array.replicate ops.size false) with
  | some T' => decide (T' = T)
  | none => false
/-- A region that draws, in all orders that count. -/
theorem AW.drawT (hP : Fit P) (T : PT) {id : Nat} {Q : AEx → Fm → AM → Prop} (hl : treeB P l.toArray T = true) (h : AWt P nt l (fun t m => Q .normal t m) T t m) : AW P nt m0 (.region id l.toArray true) t m Q := by
  unfold treeB at hl
  split at hl
  · rename_i T' hq
    have e := of_decide_eq_true hl
    subst e
    exact .all hP (planT_ok _ _ _ _ _ (by simp) hq h)
  · cases hl
theorem AWt.step {i : Nat} {rest : PT} {o : Oper} (ho : l[i]? = some o) (h : Step P nt l.toArray o t m (fun t m => AWt P nt l Q rest t m)) : AWt P nt l Q (.step i rest) t m := ⟨o, ho, h⟩
theorem AWt.both {a b : PT} (h1 : AWt P nt l Q a t m) (h2 : AWt P nt l Q b t m) : AWt P nt l Q (.both a b) t m := ⟨h1, h2⟩
theorem AWt.done (h : Q t m) : AWt P nt l Q .done t m := h
theorem AW.atR {id : Nat} {ops : Array Oper} {b : Bool} {rest : Code} {Q : AEx → Fm → AM → Prop} (h : AW P nt m0 (.seq (.region id ops b) rest) t m Q) : AW P nt m0 (.seq (.region id ops b) rest) t m Q := h
theorem AW.joinG {c rest : Code} {Q : AEx → Fm → AM → Prop} (t1 : Fm) (m1 : AM) (h : AW P nt m0 c t m (Then (fun t' m' => Gc m0 t' m' t1 m1) Q)) (h2 : AW P nt m0 rest t1 m1 Q) : AW P nt m0 (.seq c rest) t m Q :=
  .seq (h.mono fun e t m => by cases e <;> first | exact fun hg => AW.gc hg h2 | exact id)
end
/-- Own blocks under other names: σ tells where the new block p lay. -/
def sg (N : Nat) (σ : List Nat) (i : Nat) : Nat := if i < N then i else N + σ.getD (i - N) 0
theorem sg_old {N : Nat} {σ : List Nat} {i : Nat} (h : i < N) : sg N σ i = i := if_pos h
theorem sg_new {N : Nat} {σ : List Nat} (k : Nat) : sg N σ (N + k) = N + σ.getD k 0 := by
  unfold sg; rw [if_neg (by omega), Nat.add_sub_cancel_left]
theorem Gc.perm {t : Fm} {M L L1 : AM} (σ : List Nat) {l : List (Nat × Value)} (hlen : σ.length = L1.length) (hinj : σ.Nodup) (hb : ∀ p, p < L1.length → L1[p]? = L[σ.getD p 0]?) (hc : ∀ b, some b ∈ L1 → isMapK b.kind = false ∧ ∀ v ∈ b.cells, Ren (sg M.length σ) (M.length + L1.length) v v)
    (h : All (fun i v => ∃ v', t i = some v' ∧ Ren (sg M.length σ) (M.length + L1.length) v v') l) : Gc M t (M ++ L) (fr l) (M ++ L1) := by
  refine ⟨sg M.length σ, by simp, fun j hj => sg_old hj, fun i j b c hi hj e => ?_, fun j b hj => ?_, fun i v hi => by
    obtain ⟨v', h1, h2⟩ := fr_all h i v hi
    exact ⟨v', h1, by simpa using h2⟩⟩
  · have hi' := (List.getElem?_eq_some_iff.1 hi).1
    have hj' := (List.getElem?_eq_some_iff.1 hj).1
    simp only [List.length_append] at hi' hj'
    unfold sg at e
    split at e <;> split at e
    · exact e
    · omega
    · omega
    · have e' : σ.getD (i - M.length) 0 = σ.getD (j - M.length) 0 := by omega
      have h1 : i - M.length < σ.length := by omega
      have h2 : j - M.length < σ.length := by omega
      simp only [List.getD_eq_getElem?_getD, List.getElem?_eq_getElem h1, List.getElem?_eq_getElem h2, Option.getD_some] at e'
      have := (List.getElem_inj hinj).1 e'
      omega
  · rcases Nat.lt_or_ge j M.length with hlt | hge
    · rw [List.getElem?_append_left hlt] at hj
      exact .inl ⟨hlt, get_old _ hj, hj⟩
    · have hjl := (List.getElem?_eq_some_iff.1 hj).1
      simp only [List.length_append] at hjl
      rw [List.getElem?_append_right hge] at hj
      have hmem := List.mem_of_getElem? hj
      refine .inr ⟨(hc b hmem).1, b, ?_, rfl, rfl, rfl, fun k v hk => ⟨v, hk, ?_⟩⟩
      · obtain ⟨p, rfl⟩ : ∃ p, j = M.length + p := ⟨j - M.length, by omega⟩
        rw [sg_new, get_app, ← hb p (by omega)]
        rwa [Nat.add_sub_cancel_left] at hj
      · have := (hc b hmem).2 v (List.mem_of_getElem? hk)
        simpa using this
theorem lenB {α : Type} {L : List α} {p n : Nat} (h : L.length = n) : ¬ p + n < L.length := by omega
theorem CellsOk.ren {L : AM} {ρ : Nat → Nat} {N : Nat} (h : CellsOk L) : ∀ b, some b ∈ L → isMapK b.kind = false ∧ ∀ v ∈ b.cells, Ren ρ N v v := fun b hb => ⟨(h b hb).1, fun v hv => .of_g0 ((h b hb).2 v hv)⟩
theorem Ren.ptr_sg {N n k o : Nat} {σ : List Nat} (h : N + k < n) : Ren (sg N σ) n (.pointer (some ⟨N + k, o, none⟩)) (.pointer (some ⟨N + σ.getD k 0, o, none⟩)) := by
  have := Ren.ptr (ρ := sg N σ) (n := n) (N + k) o h
  rwa [sg_new] at this
end Go.Proofs.YtedbjmgchfgabaaDoor.Abs
namespace Go.Proofs.YtedbjmgchfgabaaDoor.Abs.Jb
set_option linter.unusedSimpArgs false
set_option linter.unusedVariables false
open Go.RowKit
open Go.Proofs.YtedbjmgchfgabaaDoor.Sim
open Go.Proofs
def cmpI (x y : Int) : Int := if x < y then -1 else if y < x then 1 else 0
set_option maxRecDepth 100000 in
theorem isNaN_ok {m : AM} (x : Int) : ACall Tryd.prog 85 #[.int .i64 x] m (Ret (.bool false) m) := by
  refine ACall.start Tryd.func85 rfl rfl ?_
  (repeat (first | (with_reducible refine AWo.cons ?_) | ((with_reducible refine Step.id ?_); first | ((with_reducible apply Step.move); exact rfl; exact rfl) | ((with_reducible apply Step.assign); exact rfl; exact rfl) | ((with_reducible apply Step.neq); exact rfl; exact rfl; exact rfl)) | (with_reducible refine AWo.nil ?_) | ((with_reducible apply AW.seq)) | ((with_reducible apply Then.n)) | ((with_reducible apply AW.regL))))
  (refine AW.retD (l := [(2, _)]) (by repeat (first | exact trivial | (refine And.intro ⟨rfl, by (exact .bool _)⟩ ?_))) ?_; (repeat (first | refine Then.r ?_ | refine InBlk.r ?_)))
  exact ⟨_, rfl, by simp, rfl⟩
set_option maxRecDepth 100000 in
theorem compare_ok {m : AM} (x y : Int) {r : Int} (hr : cmpI x y = r) : ACall Tryd.prog 58 #[.int .i64 x, .int .i64 y] m (Ret (.int .i64 r) m) := by
  subst hr
  refine ACall.start Tryd.func58 rfl rfl ?_
  by_cases h1 : x < y
  · (repeat (first | (with_reducible refine AWo.cons ?_) | ((with_reducible refine Step.id ?_); first | ((with_reducible apply Step.move); exact rfl; exact rfl) | ((with_reducible apply Step.assign); exact rfl; exact rfl) | ((with_reducible apply Step.lss); exact rfl; exact rfl; exact rfl) | ((with_reducible apply Step.callR fit); exact rfl; exact Tryd.func85; exact rfl; exact rfl; exact (isNaN_ok _))) | (with_reducible refine AWo.nil ?_) | ((with_reducible apply AW.seq)) | ((with_reducible apply Then.n)) | ((with_reducible apply AW.regL)) | ((with_reducible apply AW.skip)) | ((with_reducible apply AW.condT); exact rfl; (focus ((simp only [decide_eq_true_eq, decide_eq_false_iff_not, Bool.not_eq_true', Bool.not_eq_false', Bool.not_true, Bool.not_false]; first | assumption | omega)))) | ((with_reducible apply AW.condF); exact rfl; (focus (rfl)))))
    (refine AW.retD (l := [(4, _)]) (by repeat (first | exact trivial | (refine And.intro ⟨rfl, by (exact .int _ _)⟩ ?_))) ?_; (repeat (first | refine Then.r ?_ | refine InBlk.r ?_)))
    exact ⟨_, rfl, by simp [cmpI, h1], rfl⟩
  · by_cases h2 : y < x
    · (repeat (first | (with_reducible refine AWo.cons ?_) | ((with_reducible refine Step.id ?_); first | ((with_reducible apply Step.move); exact rfl; exact rfl) | ((with_reducible apply Step.assign); exact rfl; exact rfl) | ((with_reducible apply Step.lss); exact rfl; exact rfl; exact rfl) | ((with_reducible apply Step.gtr); exact rfl; exact rfl; exact rfl) | ((with_reducible apply Step.callR fit); exact rfl; exact Tryd.func85; exact rfl; exact rfl; exact (isNaN_ok _))) | (with_reducible refine AWo.nil ?_) | ((with_reducible apply AW.seq)) | ((with_reducible apply Then.n)) | ((with_reducible apply AW.regL)) | ((with_reducible apply AW.skip)) | ((with_reducible apply AW.condT); exact rfl; (focus ((simp only [decide_eq_true_eq, decide_eq_false_iff_not, Bool.not_eq_true', Bool.not_eq_false', Bool.not_true, Bool.not_false]; first | assumption | omega)))) | ((with_reducible apply AW.condF); exact rfl; (focus (first | rfl | (simp only [decide_eq_true_eq, decide_eq_false_iff_not, Bool.not_eq_true', Bool.not_eq_false', Bool.not_true, Bool.not_false]; first | assumption | omega))))))
      (refine AW.retD (l := [(4, _)]) (by repeat (first | exact trivial | (refine And.intro ⟨rfl, by (exact .int _ _)⟩ ?_))) ?_; (repeat (first | refine Then.r ?_ | refine InBlk.r ?_)))
      exact ⟨_, rfl, by simp [cmpI, h1, h2], rfl⟩
    · (repeat (first | (with_reducible refine AWo.cons ?_) | ((with_reducible refine Step.id ?_); first | ((with_reducible apply Step.move); exact rfl; exact rfl) | ((with_reducible apply Step.assign); exact rfl; exact rfl) | ((with_reducible apply Step.lss); exact rfl; exact rfl; exact rfl) | ((with_reducible apply Step.gtr); exact rfl; exact rfl; exact rfl) | ((with_reducible apply Step.callR fit); exact rfl; exact Tryd.func85; exact rfl; exact rfl; exact (isNaN_ok _))) | (with_reducible refine AWo.nil ?_) | ((with_reducible apply AW.seq)) | ((with_reducible apply Then.n)) | ((with_reducible apply AW.regL)) | ((with_reducible apply AW.skip)) | ((with_reducible apply AW.condF); exact rfl; (focus (first | rfl | (simp only [decide_eq_true_eq, decide_eq_false_iff_not, Bool.not_eq_true', Bool.not_eq_false', Bool.not_true, Bool.not_false]; first | assumption | omega))))))
      (refine AW.retD (l := [(4, _)]) (by repeat (first | exact trivial | (refine And.intro ⟨rfl, by (exact .int _ _)⟩ ?_))) ?_; (repeat (first | refine Then.r ?_ | refine InBlk.r ?_)))
      exact ⟨_, rfl, by simp [cmpI, h1, h2], rfl⟩
/-- Johnson's comparison. -/
def johnC (x y : Two) : Int :=
  if x.cut ≤ x.sew ∧ y.cut ≤ y.sew then cmpI x.cut y.cut
  else if ¬ x.cut ≤ x.sew ∧ ¬ y.cut ≤ y.sew then cmpI y.sew x.sew
  else if x.cut ≤ x.sew then -1 else 1
set_option maxRecDepth 100000 in
theorem f67_ok {m : AM} (x y : Two) : ACall Tryd.prog 57 #[.agg x.cells.toArray, .agg y.cells.toArray] m (Ret (.int .i64 (johnC x y)) m) := by
  obtain ⟨x1, x2⟩ := x
  obtain ⟨y1, y2⟩ := y
  have q1 : ∀ L : AM, Rd (m ++ (some { cells := [.int .i64 x1, .int .i64 x2] } :: L)) (m.length + 0) 0 (.int .i64 x1) := fun L => Rd.new rfl rfl
  have q2 : ∀ L : AM, Rd (m ++ (some { cells := [.int .i64 x1, .int .i64 x2] } :: L)) (m.length + 0) (0 + 1) (.int .i64 x2) := fun L => Rd.new rfl rfl
  refine ACall.start Tryd.func57 rfl rfl ?_
  by_cases f1 : x1 ≤ x2 <;> by_cases f2 : y1 ≤ y2
  · (repeat (first | (with_reducible refine AWo.cons ?_) | ((with_reducible refine Step.id ?_); first | ((with_reducible apply Step.gdT); exact rfl; exact rfl; (focus ((simp only [decide_eq_true_eq, decide_eq_false_iff_not, Bool.not_eq_true', Bool.not_eq_false', Bool.not_true, Bool.not_false]; first | assumption | omega)))) | ((with_reducible apply Step.move); exact rfl; exact rfl) | ((with_reducible apply Step.assign); exact rfl; exact rfl) | ((with_reducible apply Step.load); exact rfl; (focus (decide +kernel)); exact rfl; (focus (exact Rd.new rfl rfl))) | ((with_reducible apply Step.field0); exact rfl; (focus (decide +kernel)); exact rfl) | ((with_reducible apply Step.field (k := 1)); exact rfl; (focus (decide +kernel)); exact rfl) | ((with_reducible apply Step.leq); exact rfl; exact rfl; exact rfl) | ((with_reducible apply Step.pickT); exact rfl; exact rfl; exact rfl; exact rfl; (focus ((simp only [decide_eq_true_eq, decide_eq_false_iff_not, Bool.not_eq_true', Bool.not_eq_false', Bool.not_true, Bool.not_false]; first | assumption | omega)))) | ((with_reducible apply Step.callR fit); exact rfl; exact Tryd.func58; exact rfl; exact rfl; exact (compare_ok _ _ rfl)) | ((with_reducible apply Step.box 0); exact rfl; exact rfl; (focus (kernel_rfl)); exact rfl; (focus (first | (simp only [List.nil_append, List.cons_append, List.set_cons_zero, List.set_cons_succ, iv_set, bv_set, iv_rep, bv_rep]; done) | (simp only [List.nil_append, List.cons_append, List.set_cons_zero, List.set_cons_succ, iv_set, bv_set, iv_rep, bv_rep]; rfl) | rfl))) | ((with_reducible apply Step.box 1); exact rfl; exact rfl; (focus (kernel_rfl)); exact rfl; (focus (first | (simp only [List.nil_append, List.cons_append, List.set_cons_zero, List.set_cons_succ, iv_set, bv_set, iv_rep, bv_rep]; done) | (simp only [List.nil_append, List.cons_append, List.set_cons_zero, List.set_cons_succ, iv_set, bv_set, iv_rep, bv_rep]; rfl) | rfl)))) | (with_reducible refine AWo.nil ?_) | ((with_reducible apply AW.seq)) | ((with_reducible apply Then.n)) | ((with_reducible apply AW.regL)) | ((with_reducible apply AW.block)) | ((with_reducible apply AW.drawL fit); (focus (decide +kernel))) | ((with_reducible apply AW.condT); exact rfl; (focus ((simp only [decide_eq_true_eq, decide_eq_false_iff_not, Bool.not_eq_true', Bool.not_eq_false', Bool.not_true, Bool.not_false]; first | assumption | omega))))))
    (refine AW.retD (l := [(4, _)]) (by repeat (first | exact trivial | (refine And.intro ⟨rfl, by (exact .int _ _)⟩ ?_))) ?_; (repeat (first | refine Then.r ?_ | refine InBlk.r ?_)))
    exact ⟨_, rfl, by simp [johnC, f1, f2], rfl⟩
  · (repeat (first | (with_reducible refine AWo.cons ?_) | ((with_reducible refine Step.id ?_); first | ((with_reducible apply Step.gdT); exact rfl; exact rfl; (focus ((simp only [decide_eq_true_eq, decide_eq_false_iff_not, Bool.not_eq_true', Bool.not_eq_false', Bool.not_true, Bool.not_false]; first | assumption | omega)))) | ((with_reducible apply Step.gdF); exact rfl; exact rfl; (focus ((simp only [decide_eq_true_eq, decide_eq_false_iff_not, Bool.not_eq_true', Bool.not_eq_false', Bool.not_true, Bool.not_false]; first | assumption | omega)))) | ((with_reducible apply Step.move); exact rfl; exact rfl) | ((with_reducible apply Step.assign); exact rfl; exact rfl) | ((with_reducible apply Step.load); exact rfl; (focus (decide +kernel)); exact rfl; (focus (exact Rd.new rfl rfl))) | ((with_reducible apply Step.field0); exact rfl; (focus (decide +kernel)); exact rfl) | ((with_reducible apply Step.field (k := 1)); exact rfl; (focus (decide +kernel)); exact rfl) | ((with_reducible apply Step.leq); exact rfl; exact rfl; exact rfl) | ((with_reducible apply Step.not); exact rfl; exact rfl) | ((with_reducible apply Step.pickT); exact rfl; exact rfl; exact rfl; exact rfl; (focus ((simp only [decide_eq_true_eq, decide_eq_false_iff_not, Bool.not_eq_true', Bool.not_eq_false', Bool.not_true, Bool.not_false]; first | assumption | omega)))) | ((with_reducible apply Step.pickF); exact rfl; exact rfl; exact rfl; exact rfl; (focus ((simp only [decide_eq_true_eq, decide_eq_false_iff_not, Bool.not_eq_true', Bool.not_eq_false', Bool.not_true, Bool.not_false]; first | assumption | omega)))) | ((with_reducible apply Step.box 0); exact rfl; exact rfl; (focus (kernel_rfl)); exact rfl; (focus (first | (simp only [List.nil_append, List.cons_append, List.set_cons_zero, List.set_cons_succ, iv_set, bv_set, iv_rep, bv_rep]; done) | (simp only [List.nil_append, List.cons_append, List.set_cons_zero, List.set_cons_succ, iv_set, bv_set, iv_rep, bv_rep]; rfl) | rfl))) | ((with_reducible apply Step.box 1); exact rfl; exact rfl; (focus (kernel_rfl)); exact rfl; (focus (first | (simp only [List.nil_append, List.cons_append, List.set_cons_zero, List.set_cons_succ, iv_set, bv_set, iv_rep, bv_rep]; done) | (simp only [List.nil_append, List.cons_append, List.set_cons_zero, List.set_cons_succ, iv_set, bv_set, iv_rep, bv_rep]; rfl) | rfl)))) | (with_reducible refine AWo.nil ?_) | ((with_reducible apply AW.seq)) | ((with_reducible apply Then.n)) | ((with_reducible apply AW.regL)) | ((with_reducible apply AW.block)) | ((with_reducible apply AW.drawL fit); (focus (decide +kernel))) | ((with_reducible apply AW.condT); exact rfl; (focus ((simp only [decide_eq_true_eq, decide_eq_false_iff_not, Bool.not_eq_true', Bool.not_eq_false', Bool.not_true, Bool.not_false]; first | assumption | omega)))) | ((with_reducible apply AW.condF); exact rfl; (focus (first | rfl | (simp only [decide_eq_true_eq, decide_eq_false_iff_not, Bool.not_eq_true', Bool.not_eq_false', Bool.not_true, Bool.not_false]; first | assumption | omega))))))
    (refine AW.retD (l := [(4, _)]) (by repeat (first | exact trivial | (refine And.intro ⟨rfl, by (exact .int _ _)⟩ ?_))) ?_; (repeat (first | refine Then.r ?_ | refine InBlk.r ?_)))
    exact ⟨_, rfl, by simp [johnC, f1, f2], rfl⟩
  · (repeat (first | (with_reducible refine AWo.cons ?_) | ((with_reducible refine Step.id ?_); first | ((with_reducible apply Step.gdT); exact rfl; exact rfl; (focus ((simp only [decide_eq_true_eq, decide_eq_false_iff_not, Bool.not_eq_true', Bool.not_eq_false', Bool.not_true, Bool.not_false]; first | assumption | omega)))) | ((with_reducible apply Step.gdF); exact rfl; exact rfl; (focus ((simp only [decide_eq_true_eq, decide_eq_false_iff_not, Bool.not_eq_true', Bool.not_eq_false', Bool.not_true, Bool.not_false]; first | assumption | omega)))) | ((with_reducible apply Step.move); exact rfl; exact rfl) | ((with_reducible apply Step.assign); exact rfl; exact rfl) | ((with_reducible apply Step.load); exact rfl; (focus (decide +kernel)); exact rfl; (focus (exact Rd.new rfl rfl))) | ((with_reducible apply Step.field0); exact rfl; (focus (decide +kernel)); exact rfl) | ((with_reducible apply Step.field (k := 1)); exact rfl; (focus (decide +kernel)); exact rfl) | ((with_reducible apply Step.leq); exact rfl; exact rfl; exact rfl) | ((with_reducible apply Step.not); exact rfl; exact rfl) | ((with_reducible apply Step.pickT); exact rfl; exact rfl; exact rfl; exact rfl; (focus ((simp only [decide_eq_true_eq, decide_eq_false_iff_not, Bool.not_eq_true', Bool.not_eq_false', Bool.not_true, Bool.not_false]; first | assumption | omega)))) | ((with_reducible apply Step.pickF); exact rfl; exact rfl; exact rfl; exact rfl; (focus ((simp only [decide_eq_true_eq, decide_eq_false_iff_not, Bool.not_eq_true', Bool.not_eq_false', Bool.not_true, Bool.not_false]; first | assumption | omega)))) | ((with_reducible apply Step.box 0); exact rfl; exact rfl; (focus (kernel_rfl)); exact rfl; (focus (first | (simp only [List.nil_append, List.cons_append, List.set_cons_zero, List.set_cons_succ, iv_set, bv_set, iv_rep, bv_rep]; done) | (simp only [List.nil_append, List.cons_append, List.set_cons_zero, List.set_cons_succ, iv_set, bv_set, iv_rep, bv_rep]; rfl) | rfl))) | ((with_reducible apply Step.box 1); exact rfl; exact rfl; (focus (kernel_rfl)); exact rfl; (focus (first | (simp only [List.nil_append, List.cons_append, List.set_cons_zero, List.set_cons_succ, iv_set, bv_set, iv_rep, bv_rep]; done) | (simp only [List.nil_append, List.cons_append, List.set_cons_zero, List.set_cons_succ, iv_set, bv_set, iv_rep, bv_rep]; rfl) | rfl)))) | (with_reducible refine AWo.nil ?_) | ((with_reducible apply AW.seq)) | ((with_reducible apply Then.n)) | ((with_reducible apply AW.regL)) | ((with_reducible apply AW.block)) | ((with_reducible apply AW.drawL fit); (focus (decide +kernel))) | ((with_reducible apply InBlk.n)) | ((with_reducible apply AW.skip)) | ((with_reducible apply AW.condF); exact rfl; (focus (first | rfl | (simp only [decide_eq_true_eq, decide_eq_false_iff_not, Bool.not_eq_true', Bool.not_eq_false', Bool.not_true, Bool.not_false]; first | assumption | omega))))))
    (refine AW.retD (l := [(4, _)]) (by repeat (first | exact trivial | (refine And.intro ⟨rfl, by (exact .int _ _)⟩ ?_))) ?_; (repeat (first | refine Then.r ?_ | refine InBlk.r ?_)))
    exact ⟨_, rfl, by simp [johnC, f1, f2], rfl⟩
  · (repeat (first | (with_reducible refine AWo.cons ?_) | ((with_reducible refine Step.id ?_); first | ((with_reducible apply Step.gdT); exact rfl; exact rfl; (focus ((simp only [decide_eq_true_eq, decide_eq_false_iff_not, Bool.not_eq_true', Bool.not_eq_false', Bool.not_true, Bool.not_false]; first | assumption | omega)))) | ((with_reducible apply Step.gdF); exact rfl; exact rfl; (focus ((simp only [decide_eq_true_eq, decide_eq_false_iff_not, Bool.not_eq_true', Bool.not_eq_false', Bool.not_true, Bool.not_false]; first | assumption | omega)))) | ((with_reducible apply Step.move); exact rfl; exact rfl) | ((with_reducible apply Step.assign); exact rfl; exact rfl) | ((with_reducible apply Step.load); exact rfl; (focus (decide +kernel)); exact rfl; (focus (exact Rd.new rfl rfl))) | ((with_reducible apply Step.field0); exact rfl; (focus (decide +kernel)); exact rfl) | ((with_reducible apply Step.field (k := 1)); exact rfl; (focus (decide +kernel)); exact rfl) | ((with_reducible apply Step.leq); exact rfl; exact rfl; exact rfl) | ((with_reducible apply Step.not); exact rfl; exact rfl) | ((with_reducible apply Step.pickT); exact rfl; exact rfl; exact rfl; exact rfl; (focus ((simp only [decide_eq_true_eq, decide_eq_false_iff_not, Bool.not_eq_true', Bool.not_eq_false', Bool.not_true, Bool.not_false]; first | assumption | omega)))) | ((with_reducible apply Step.pickF); exact rfl; exact rfl; exact rfl; exact rfl; (focus ((simp only [decide_eq_true_eq, decide_eq_false_iff_not, Bool.not_eq_true', Bool.not_eq_false', Bool.not_true, Bool.not_false]; first | assumption | omega)))) | ((with_reducible apply Step.callR fit); exact rfl; exact Tryd.func58; exact rfl; exact rfl; exact (compare_ok _ _ rfl)) | ((with_reducible apply Step.box 0); exact rfl; exact rfl; (focus (kernel_rfl)); exact rfl; (focus (first | (simp only [List.nil_append, List.cons_append, List.set_cons_zero, List.set_cons_succ, iv_set, bv_set, iv_rep, bv_rep]; done) | (simp only [List.nil_append, List.cons_append, List.set_cons_zero, List.set_cons_succ, iv_set, bv_set, iv_rep, bv_rep]; rfl) | rfl))) | ((with_reducible apply Step.box 1); exact rfl; exact rfl; (focus (kernel_rfl)); exact rfl; (focus (first | (simp only [List.nil_append, List.cons_append, List.set_cons_zero, List.set_cons_succ, iv_set, bv_set, iv_rep, bv_rep]; done) | (simp only [List.nil_append, List.cons_append, List.set_cons_zero, List.set_cons_succ, iv_set, bv_set, iv_rep, bv_rep]; rfl) | rfl)))) | (with_reducible refine AWo.nil ?_) | ((with_reducible apply AW.seq)) | ((with_reducible apply Then.n)) | ((with_reducible apply AW.regL)) | ((with_reducible apply AW.block)) | ((with_reducible apply AW.drawL fit); (focus (decide +kernel))) | ((with_reducible apply AW.condT); exact rfl; (focus ((simp only [decide_eq_true_eq, decide_eq_false_iff_not, Bool.not_eq_true', Bool.not_eq_false', Bool.not_true, Bool.not_false]; first | assumption | omega)))) | ((with_reducible apply AW.condF); exact rfl; (focus (rfl)))))
    (refine AW.retD (l := [(4, _)]) (by repeat (first | exact trivial | (refine And.intro ⟨rfl, by (exact .int _ _)⟩ ?_))) ?_; (repeat (first | refine Then.r ?_ | refine InBlk.r ?_)))
    exact ⟨_, rfl, by simp [johnC, f1, f2], rfl⟩
/-- The comparison of two indices. -/
def ixC (j : List Two) (c : Two → Two → Int) (a b : Int) : Int := c (j.getD a.toNat default) (j.getD b.toNat default)
set_option maxRecDepth 100000 in
theorem f102_ok {m : AM} {v : Value} {j : List Two} {c : Two → Two → Int} {g a1 a2 : Nat} {fn : Func} {bd : Code} (hf : Tryd.prog.funcs[g]? = some fn) (hb : fn.body = some bd) (hj : Twos m v j) (h1 : Rd m a1 0 (.func (.func g) #[] #[])) (h2 : Rd m a2 0 v)
    (hc : ∀ x y : Two, ACall Tryd.prog g (#[] ++ #[.agg x.cells.toArray, .agg y.cells.toArray] ++ #[]) m (Ret (.int .i64 (c x y)) m)) (x y : Int) (hx : 0 ≤ x ∧ x < j.length) (hy : 0 ≤ y ∧ y < j.length) :
    ACall Tryd.prog 84 #[.int .i64 x, .int .i64 y, .pointer (some ⟨a1, 0, none⟩), .pointer (some ⟨a2, 0, none⟩)] m (Ret (.int .i64 (ixC j c x y)) m) := by
  obtain ⟨a, o, k1, k2, k3⟩ := id hj
  obtain ⟨x, rfl⟩ := Int.eq_ofNat_of_zero_le hx.1
  obtain ⟨y, rfl⟩ := Int.eq_ofNat_of_zero_le hy.1
  have r1 := k3 x (by omega)
  have r2 := k3 y (by omega)
  rw [← List.append_nil m] at h1 h2 r1 r2 hc
  refine ACall.start Tryd.func84 rfl rfl ?_
  (repeat (first | (with_reducible refine AWo.cons ?_) | ((with_reducible refine Step.id ?_); first | ((with_reducible apply Step.move); exact rfl; exact rfl) | ((with_reducible apply Step.assign); exact rfl; exact rfl) | ((with_reducible apply Step.load); exact rfl; (focus (decide +kernel)); exact rfl; (focus (assumption))) | ((with_reducible apply Step.loadL (n := 2)); exact rfl; (focus (decide +kernel)); (focus (decide +kernel)); exact rfl; (focus (assumption)); exact rfl; exact rfl) | ((with_reducible apply Step.ix (s := 2)); exact rfl; (focus (assumption)); exact rfl; (focus (decide +kernel)); exact rfl; (focus (omega))) | ((with_reducible apply Step.callV fit); exact rfl; exact rfl; exact hf; exact hb; exact rfl; exact (hc _ _))) | (with_reducible refine AWo.nil ?_) | ((with_reducible apply AW.seq)) | ((with_reducible apply Then.n)) | ((with_reducible apply AW.regL)) | ((with_reducible apply AW.drawL fit); (focus (decide +kernel)))))
  (refine AW.retD (l := [(6, _)]) (by repeat (first | exact trivial | (refine And.intro ⟨rfl, by (exact .int _ _)⟩ ?_))) ?_; (repeat (first | refine Then.r ?_ | refine InBlk.r ?_)))
  exact ⟨_, rfl, by simp [ixC], rfl⟩
end Go.Proofs.YtedbjmgchfgabaaDoor.Abs.Jb
namespace Go.Proofs.YtedbjmgchfgabaaDoor.Abs.Jb
set_option linter.unusedSimpArgs false
set_option linter.unusedVariables false
open Go.RowKit
open Go.Proofs.YtedbjmgchfgabaaDoor.Sim
open Go.Proofs
theorem upI_mem {n : Nat} {x : Int} : x ∈ upI n ↔ 0 ≤ x ∧ x < n := by
  simp only [upI, List.mem_map, List.mem_range]
  constructor
  · rintro ⟨k, hk, rfl⟩; omega
  · rintro ⟨h1, h2⟩; exact ⟨x.toNat, by omega, by omega⟩
theorem upI_cross {le : Int → Int → Bool} {c : Int → Int → Int} {n : Nat} (h : ∀ x y : Int, 0 ≤ x → x < y → y < n → Cross le c x y) : (upI n).Pairwise (Cross le c) := by
  unfold upI
  rw [List.pairwise_map]
  refine List.Pairwise.imp_of_mem (fun {a b} ha hb hab => h a b (by omega) (by omega) ?_) (List.pairwise_lt_range)
  have := List.mem_range.1 hb
  omega
set_option maxRecDepth 100000 in
theorem sorted2_ok {m : AM} {v : Value} {j : List Two} {c : Two → Two → Int} {le : Int → Int → Bool} {g : Nat} {fn : Func} {bd : Code} (hf : Tryd.prog.funcs[g]? = some fn) (hb : fn.body = some bd) (hj : Twos m v j) (hlen : j.length ≤ 40) (hT : TO le)
    (hX : ∀ x y : Int, 0 ≤ x → x < y → y < j.length → Cross le (ixC j c) x y)
    (hc : ∀ (m : AM) (x y : Two), ACall Tryd.prog g (#[] ++ #[.agg x.cells.toArray, .agg y.cells.toArray] ++ #[]) m (Ret (.int .i64 (c x y)) m)) :
    ACall Tryd.prog 56 #[v, .func (.func g) #[] #[]] m (New (some { cells := iv (ms le (upI j.length)) }) j.length m) := by
  obtain ⟨a, o, k1, k2, k3⟩ := id hj
  obtain ⟨bv, hbv⟩ : ∃ bv : Blk, bv = { cells := [v] } := ⟨_, rfl⟩
  obtain ⟨bf, hbf⟩ : ∃ bf : Blk, bf = { cells := [.func (.func g) #[] #[]] } := ⟨_, rfl⟩
  have hC : CmpOk (m ++ [some bv, some bf, some { cells := iv (upI j.length) }]) (m.length + 2) 1 .own (ixC j c) (fun x => 0 ≤ x ∧ x < j.length) 84 #[.pointer (some ⟨m.length + 1, 0, none⟩), .pointer (some ⟨m.length + 0, 0, none⟩)] := by
    refine ⟨by simp, rfl, fun l x y hx hy => ?_⟩
    have hj' : Twos (St (m ++ [some bv, some bf, some { cells := iv (upI j.length) }]) (m.length + 2) .own 1 l) v j :=
      ⟨a, o, k1, by rw [St.len]; simp; omega, fun k hk => St.rdl_ne ((k3 k hk).old _) (by omega)⟩
    exact f102_ok hf hb hj' (St.rd_ne (Rd.new (L := [some bv, some bf, some { cells := iv (upI j.length) }]) (k := 1) rfl (by rw [hbf]; rfl)) (by omega))
      (St.rd_ne (Rd.new (L := [some bv, some bf, some { cells := iv (upI j.length) }]) (k := 0) rfl (by rw [hbv]; rfl)) (by omega)) (fun x y => hc _ x y) x y hx hy
  have hst := stable_ok hC hT Tryd.func84 rfl j.length (upI j.length) (upI_len _) hlen (fun x hx => upI_mem.1 hx) (upI_cross hX)
  rw [St.self (by rw [get_app]; rfl)] at hst
  have hset : St (m ++ [some bv, some bf, some { cells := iv (upI j.length) }]) (m.length + 2) .own 1 (ms le (upI j.length)) = m ++ [some bv, some bf, some { cells := iv (ms le (upI j.length)) }] := by
    unfold St; rw [set_app]; rfl
  rw [hset] at hst
  refine ACall.start Tryd.func56 rfl rfl ?_
  subst hbv hbf
  have hv := k1.cells
  (repeat (first | (with_reducible refine AWo.cons ?_) | ((with_reducible refine Step.id ?_); first | ((with_reducible apply Step.move); exact rfl; exact rfl) | ((with_reducible apply Step.assign); exact rfl; exact rfl) | ((with_reducible apply Step.load); exact rfl; (focus (decide +kernel)); exact rfl; (focus (exact Rd.new rfl rfl))) | ((with_reducible apply Step.len); exact rfl; (focus (assumption)); (focus (decide +kernel)); exact rfl) | ((with_reducible apply Step.fn); exact rfl; exact rfl; exact rfl) | ((with_reducible apply Step.callN fit (k := 2)); exact rfl; exact rfl; exact Tryd.func82; exact rfl; exact rfl; exact (upTo_ok _ (by omega)); (focus (first | (simp only [List.nil_append, List.cons_append, List.set_cons_zero, List.set_cons_succ, iv_set, bv_set, iv_rep, bv_rep]; done) | (simp only [List.nil_append, List.cons_append, List.set_cons_zero, List.set_cons_succ, iv_set, bv_set, iv_rep, bv_rep]; rfl) | rfl))) | ((with_reducible apply Step.callM fit); exact rfl; exact Tryd.func83; exact rfl; exact rfl; exact (hst)) | ((with_reducible apply Step.boxV 0); exact rfl; exact rfl; (focus (assumption)); exact rfl; (focus (first | (simp only [List.nil_append, List.cons_append, List.set_cons_zero, List.set_cons_succ, iv_set, bv_set, iv_rep, bv_rep]; done) | (simp only [List.nil_append, List.cons_append, List.set_cons_zero, List.set_cons_succ, iv_set, bv_set, iv_rep, bv_rep]; rfl) | rfl))) | ((with_reducible apply Step.box 1); exact rfl; exact rfl; (focus (kernel_rfl)); exact rfl; (focus (first | (simp only [List.nil_append, List.cons_append, List.set_cons_zero, List.set_cons_succ, iv_set, bv_set, iv_rep, bv_rep]; done) | (simp only [List.nil_append, List.cons_append, List.set_cons_zero, List.set_cons_succ, iv_set, bv_set, iv_rep, bv_rep]; rfl) | rfl)))) | (with_reducible refine AWo.nil ?_) | ((with_reducible apply AW.seq)) | ((with_reducible apply Then.n)) | ((with_reducible apply AW.regL))))
  refine AW.retB (l := [(4, .slice (some ⟨m.length + 0, 0, none⟩) j.length j.length)]) (L1 := [some { cells := iv (ms le (upI j.length)) }]) (Back.mv 0 2 rfl rfl rfl rfl (by intro j b hj h; rcases j with _ | _ | _ | _ | _ | _ | j <;> simp_all) (by repeat (first | exact CellsOk.nil | refine CellsOk.cons (by exact g0_iv _) ?_)) (by repeat (first | exact trivial | (refine And.intro ⟨_, rfl, by (exact Ren.slice_mv (by first | (simp; done) | omega | (simp; omega)))⟩ ?_)))) ?_
  exact ⟨_, rfl, rfl, rfl⟩
def jK (x : Two) : Int := if x.cut ≤ x.sew then 0 else 1
def jV (x : Two) : Int := if x.cut ≤ x.sew then x.cut else -x.sew
def leJ (j : List Two) (a b : Int) : Bool := decide (jK (j.getD a.toNat default) < jK (j.getD b.toNat default) ∨ jK (j.getD a.toNat default) = jK (j.getD b.toNat default) ∧ (jV (j.getD a.toNat default) < jV (j.getD b.toNat default) ∨ jV (j.getD a.toNat default) = jV (j.getD b.toNat default) ∧ a ≤ b))
theorem lex_to (f h : Int → Int) : TO (fun a b => decide (f a < f b ∨ f a = f b ∧ (h a < h b ∨ h a = h b ∧ a ≤ b))) := by
  refine ⟨fun a b => ?_, fun a b c h1 h2 => ?_, fun a b h1 h2 => ?_⟩
  · simp only [Bool.or_eq_true, decide_eq_true_eq]; omega
  · simp only [decide_eq_true_eq] at *; omega
  · simp only [decide_eq_true_eq] at *; omega
theorem leJ_to (j : List Two) : TO (leJ j) := lex_to (fun a => jK (j.getD a.toNat default)) (fun a => jV (j.getD a.toNat default))
theorem johnC_neg (x y : Two) : johnC x y < 0 ↔ jK x < jK y ∨ jK x = jK y ∧ jV x < jV y := by
  simp only [johnC, jK, jV, cmpI]
  by_cases f1 : x.cut ≤ x.sew <;> by_cases f2 : y.cut ≤ y.sew <;> simp [f1, f2]
  · split
    · simp; assumption
    · split <;> simp <;> omega
  · split
    · simp; omega
    · split <;> simp <;> omega
theorem leJ_cross (j : List Two) (x y : Int) (hxy : x < y) : Cross (leJ j) (ixC j johnC) x y := by
  unfold Cross ixC
  rw [johnC_neg]
  simp only [leJ, decide_eq_false_iff_not]
  omega
def johnL (j : List Two) : List Int := ms (leJ j) (upI j.length)
theorem johnL_len (j : List Two) : (johnL j).length = j.length := by simp [johnL, ms_len, upI_len]
set_option maxRecDepth 100000 in
/-- The program's Johnson: nil where the jobs are not valid. -/
theorem Johnson_ok {m : AM} {v : Value} {j : List Two} (hj : Twos m v j) (hlen : j.length ≤ 100000) (hok : twosB j = true) :
    ACall Tryd.prog 25 #[v] m (NewT (fun N => .tuple #[.slice (some ⟨N, 0, none⟩) j.length j.length, .int .i64 0]) (some { cells := iv (johnL j) }) m) := by
  obtain ⟨a, o, k1, k2, k3⟩ := id hj
  have h40 := (tlim_of hok).2
  have hs := sorted2_ok (m := m ++ []) (c := johnC) (le := leJ j) Tryd.func57 rfl (hj.old []) h40 (leJ_to j) (fun x y _ h _ => leJ_cross j x y h) (fun m x y => by rw [Array.append_empty, Array.empty_append]; exact f67_ok x y)
  refine ACall.start Tryd.func25 rfl rfl ?_
  (repeat (first | (with_reducible refine AWo.cons ?_) | ((with_reducible refine Step.id ?_); first | ((with_reducible apply Step.move); exact rfl; exact rfl) | ((with_reducible apply Step.assign); exact rfl; exact rfl) | ((with_reducible apply Step.not); exact rfl; exact rfl) | ((with_reducible apply Step.callR fit); exact rfl; exact Tryd.func55; exact rfl; exact rfl; exact (twos_ok (hj.old []) hlen hok)) | ((with_reducible apply Step.callN fit (k := 0)); exact rfl; exact rfl; exact Tryd.func56; exact rfl; exact rfl; exact (hs); (focus (first | (simp only [List.nil_append, List.cons_append, List.set_cons_zero, List.set_cons_succ, iv_set, bv_set, iv_rep, bv_rep]; done) | (simp only [List.nil_append, List.cons_append, List.set_cons_zero, List.set_cons_succ, iv_set, bv_set, iv_rep, bv_rep]; rfl) | rfl)))) | (with_reducible refine AWo.nil ?_) | ((with_reducible apply AW.seq)) | ((with_reducible apply Then.n)) | ((with_reducible apply AW.regL)) | ((with_reducible apply AW.skip)) | ((with_reducible apply AW.condF); exact rfl; (focus (rfl)))))
  (refine AW.retB (l := [(2, _), (3, _)]) (Or.inl ⟨rfl, (by repeat (first | exact trivial | (refine And.intro rfl ?_)))⟩) ?_; (repeat (first | refine Then.r ?_ | refine InBlk.r ?_)))
  exact ⟨_, rfl, rfl, rfl⟩
end Go.Proofs.YtedbjmgchfgabaaDoor.Abs.Jb
namespace Go.Proofs.YtedbjmgchfgabaaDoor.Abs.Jb
set_option linter.unusedSimpArgs false
set_option linter.unusedVariables false
open Go.RowKit
open Go.Proofs.YtedbjmgchfgabaaDoor.Sim
open Go.Proofs
section
variable (j : List Two)
def aI (x : Int) : Int := (j.getD x.toNat default).cut
def bI (x : Int) : Int := (j.getD x.toNat default).sew
def sA (l : List Int) : Int := sumI (l.map (aI j))
def sB (l : List Int) : Int := sumI (l.map (bI j))
/-- The span of a row of jobs. -/
def tS : List Int → Int
  | [] => 0
  | x :: l => max (aI j x + bI j x + sB j l) (aI j x + tS l)
end
section
variable {j : List Two}
theorem sB_cons (x : Int) (l : List Int) : sB j (x :: l) = bI j x + sB j l := rfl
theorem tS_cons (x : Int) (l : List Int) : tS j (x :: l) = max (aI j x + bI j x + sB j l) (aI j x + tS j l) := rfl
theorem fold_tS (h : ∀ x, 0 ≤ bI j x) : ∀ (l : List Int) (c s : Int), c ≤ s → ((nat l).foldl (spanS j) (c, s)).2 = max (s + sB j l) (c + tS j l)
  | [], c, s, hcs => by simp [nat, sB, sumI, tS]; omega
  | x :: l, c, s, hcs => by
    have hb := h x
    have ih := fold_tS h l (c + aI j x) (max (c + aI j x) s + bI j x) (by omega)
    have e : (nat (x :: l)).foldl (spanS j) (c, s) = (nat l).foldl (spanS j) (c + aI j x, max (c + aI j x) s + bI j x) := rfl
    rw [e, ih, sB_cons, tS_cons]
    omega
/-- x may stand before y. -/
def bef (j : List Two) (x y : Int) : Prop := min (aI j x) (bI j y) ≤ min (aI j y) (bI j x)
theorem swap_tS {x y : Int} (h : bef j x y) (l : List Int) : tS j (x :: y :: l) ≤ tS j (y :: x :: l) := by
  unfold bef at h
  simp only [tS_cons, sB_cons]
  omega
theorem tS_mono {x : Int} {l k : List Int} (hB : sB j l = sB j k) (h : tS j l ≤ tS j k) : tS j (x :: l) ≤ tS j (x :: k) := by
  simp only [tS_cons, hB]
  omega
theorem bef_aux (p q : Two) (x y : Int) (h : jK p < jK q ∨ jK p = jK q ∧ (jV p < jV q ∨ jV p = jV q ∧ x ≤ y)) : min p.cut q.sew ≤ min q.cut p.sew := by
  unfold jK jV at h
  by_cases f1 : p.cut ≤ p.sew <;> by_cases f2 : q.cut ≤ q.sew <;> simp only [f1, f2, if_true, if_false] at h <;> omega
theorem leJ_bef {x y : Int} (h : leJ j x y = true) : bef j x y :=
  bef_aux _ _ x y (by simpa only [leJ, decide_eq_true_eq] using h)
/-- Insertion into a sorted row. -/
def ins (j : List Two) (x : Int) : List Int → List Int
  | [] => [x]
  | y :: l => if leJ j x y then x :: y :: l else y :: ins j x l
theorem ins_perm (x : Int) : ∀ l, (ins j x l).Perm (x :: l)
  | [] => List.Perm.refl _
  | y :: l => by
    simp only [ins]
    split
    · exact List.Perm.refl _
    · exact ((ins_perm x l).cons y).trans (List.Perm.swap x y l)
theorem ins_srt (x : Int) : ∀ l, Srt (leJ j) l → Srt (leJ j) (ins j x l)
  | [], _ => List.pairwise_singleton _ _
  | y :: l, h => by
    obtain ⟨h1, h2⟩ := List.pairwise_cons.1 h
    simp only [ins]
    split
    · rename_i hxy
      exact List.pairwise_cons.2 ⟨fun z hz => by
        rcases List.mem_cons.1 hz with rfl | hz
        · exact hxy
        · exact (leJ_to j).tr _ _ _ hxy (h1 z hz), h⟩
    · rename_i hxy
      refine List.pairwise_cons.2 ⟨fun z hz => ?_, ins_srt x l h2⟩
      rcases List.mem_cons.1 ((ins_perm x l).mem_iff.1 hz) with rfl | hz
      · exact (leJ_to j).of_not (by simpa using hxy)
      · exact h1 z hz
theorem sB_perm {l k : List Int} (h : l.Perm k) : sB j l = sB j k := sumI_perm (h.map _)
theorem ins_tS (hlim : ∀ x, 0 ≤ aI j x ∧ 0 ≤ bI j x) (x : Int) : ∀ l, tS j (ins j x l) ≤ tS j (x :: l)
  | [] => Int.le_refl _
  | y :: l => by
    simp only [ins]
    split
    · exact Int.le_refl _
    · rename_i hxy
      have h1 : tS j (y :: ins j x l) ≤ tS j (y :: x :: l) := tS_mono (sB_perm (ins_perm x l)) (ins_tS hlim x l)
      exact Int.le_trans h1 (swap_tS (leJ_bef ((leJ_to j).of_not (by simpa using hxy))) l)
def isrt (j : List Two) : List Int → List Int
  | [] => []
  | x :: l => ins j x (isrt j l)
theorem isrt_perm : ∀ l, (isrt j l).Perm l
  | [] => List.Perm.refl _
  | x :: l => (ins_perm x _).trans ((isrt_perm l).cons x)
theorem isrt_srt : ∀ l, Srt (leJ j) (isrt j l)
  | [] => List.Pairwise.nil
  | x :: l => ins_srt x _ (isrt_srt l)
theorem isrt_tS (hlim : ∀ x, 0 ≤ aI j x ∧ 0 ≤ bI j x) : ∀ l, tS j (isrt j l) ≤ tS j l
  | [] => Int.le_refl _
  | x :: l => Int.le_trans (ins_tS hlim x _) (tS_mono (sB_perm (isrt_perm l)) (isrt_tS hlim l))
theorem johnL_order (j : List Two) : orderB (johnL j) j.length = true :=
  orderB_iff.2 ⟨johnL_len j, fun x hx => mem_upI.1 (ms_mem.1 hx), (ms_perm.nodup_iff).2 (upI_nodup _)⟩
theorem order_perm {l : List Int} {n : Nat} (h : orderB l n = true) : l.Perm (upI n) := by
  simp only [orderB, Bool.and_eq_true, decide_eq_true_eq] at h
  have := (List.mergeSort_perm l (fun x y => decide (x ≤ y))).symm
  have e := h.2
  unfold srt at e
  rwa [e] at this
/-- No order has a smaller span than Johnson's. -/
theorem johnson_best (hlim : tlim j) {l : List Int} (ho : orderB l j.length = true) : (spanF j (nat (johnL j))).2 ≤ (spanF j (nat l)).2 := by
  have hl : ∀ x, 0 ≤ aI j x ∧ 0 ≤ bI j x := fun x => by
    have := lim_pos hlim x.toNat
    exact ⟨this.1, this.2.2.1⟩
  have e : johnL j = isrt j l := ms_of (leJ_to j) ((isrt_perm l).trans (order_perm ho)) (isrt_srt l)
  have h1 := fold_tS (fun x => (hl x).2) (johnL j) 0 0 (Int.le_refl _)
  have h2 := fold_tS (fun x => (hl x).2) l 0 0 (Int.le_refl _)
  have h3 : tS j (johnL j) ≤ tS j l := by rw [e]; exact isrt_tS hl l
  have h4 : sB j (johnL j) = sB j l := by rw [e]; exact sB_perm (isrt_perm l)
  unfold spanF
  rw [h1, h2]
  omega
end
end Go.Proofs.YtedbjmgchfgabaaDoor.Abs.Jb
namespace Go.Proofs.YtedbjmgchfgabaaDoor.Abs.Jb
set_option linter.unusedSimpArgs false
set_option linter.unusedVariables false
open Go.RowKit
open Go.Proofs.YtedbjmgchfgabaaDoor.Sim
open Go.Proofs
section
variable {j : List Two}
theorem tS_ge_last {mn : Int} : ∀ (l : List Int), l ≠ [] → (∀ x ∈ l, mn ≤ bI j x) → (∀ x ∈ l, 0 ≤ bI j x) → sA j l + mn ≤ tS j l
  | [], h, _, _ => absurd rfl h
  | [x], _, h, _ => by
    have := h x (by simp)
    simp only [tS, sA, sB, sumI, List.map, List.foldr]
    omega
  | x :: y :: l, _, h, h0 => by
    have ih := tS_ge_last (y :: l) (by simp) (fun z hz => h z (by simp at hz ⊢; right; exact hz)) (fun z hz => h0 z (by simp at hz ⊢; right; exact hz))
    have e : sA j (x :: y :: l) = aI j x + sA j (y :: l) := rfl
    rw [e, tS_cons]
    omega
theorem tS_ge_first {mc : Int} : ∀ (l : List Int), l ≠ [] → (∀ x ∈ l, mc ≤ aI j x) → sB j l + mc ≤ tS j l
  | [], h, _ => absurd rfl h
  | x :: l, _, h => by
    have := h x (by simp)
    rw [sB_cons, tS_cons]
    omega
theorem sA_nonneg : ∀ (l : List Int), (∀ x ∈ l, 0 ≤ aI j x) → 0 ≤ sA j l
  | [], _ => Int.le_refl _
  | x :: l, h => by
    have := sA_nonneg l fun z hz => h z (by simp [hz])
    have := h x (by simp)
    have e : sA j (x :: l) = aI j x + sA j l := rfl
    rw [e]
    omega
theorem tS_le : ∀ (l : List Int), (∀ x ∈ l, 0 ≤ aI j x ∧ 0 ≤ bI j x) → tS j l ≤ sA j l + sB j l
  | [], _ => by simp [tS, sA, sB, sumI]
  | x :: l, h => by
    have ih := tS_le l fun z hz => h z (by simp [hz])
    have h1 := h x (by simp)
    have h2 := sA_nonneg l fun z hz => (h z (by simp [hz])).1
    have e : sA j (x :: l) = aI j x + sA j l := rfl
    rw [e, sB_cons, tS_cons]
    omega
end
def cS (j : List Two) : Int := sumI (j.map (·.cut))
def sS (j : List Two) : Int := sumI (j.map (·.sew))
def mC (j : List Two) : Int := j.foldl (fun a x => min a x.cut) 1073741824
def mS (j : List Two) : Int := j.foldl (fun a x => min a x.sew) 1073741824
theorem cS_snoc (j : List Two) (x : Two) : cS (j ++ [x]) = cS j + x.cut := by unfold cS; rw [List.map_append, sumI_app]; simp [sumI]
theorem sS_snoc (j : List Two) (x : Two) : sS (j ++ [x]) = sS j + x.sew := by unfold sS; rw [List.map_append, sumI_app]; simp [sumI]
theorem mC_snoc (j : List Two) (x : Two) : mC (j ++ [x]) = min (mC j) x.cut := by simp [mC]
theorem mS_snoc (j : List Two) (x : Two) : mS (j ++ [x]) = min (mS j) x.sew := by simp [mS]
theorem fold_min (f : Two → Int) : ∀ (j : List Two) (a : Int), j.foldl (fun a x => min a (f x)) a ≤ a ∧ ∀ x ∈ j, j.foldl (fun a x => min a (f x)) a ≤ f x
  | [], a => ⟨Int.le_refl _, fun x hx => by simp at hx⟩
  | y :: j, a => by
    obtain ⟨h1, h2⟩ := fold_min f j (min a (f y))
    refine ⟨by simp only [List.foldl_cons]; omega, fun x hx => ?_⟩
    simp only [List.foldl_cons]
    rcases List.mem_cons.1 hx with rfl | hx
    · omega
    · exact h2 x hx
theorem fold_min_ge (f : Two → Int) : ∀ (j : List Two) (a : Int), 0 ≤ a → (∀ x ∈ j, 0 ≤ f x) → 0 ≤ j.foldl (fun a x => min a (f x)) a
  | [], a, h, _ => h
  | y :: j, a, h, hj => by
    have := hj y (by simp)
    exact fold_min_ge f j (min a (f y)) (by omega) fun x hx => hj x (by simp [hx])
theorem mC_le {j : List Two} {k : Nat} (h : k < j.length) : mC j ≤ (j.getD k default).cut := by
  have e : j.getD k default = j[k] := by simp [h]
  rw [e]; exact (fold_min (·.cut) j _).2 _ (List.getElem_mem h)
theorem mS_le {j : List Two} {k : Nat} (h : k < j.length) : mS j ≤ (j.getD k default).sew := by
  have e : j.getD k default = j[k] := by simp [h]
  rw [e]; exact (fold_min (·.sew) j _).2 _ (List.getElem_mem h)
theorem map_up (f : Two → Int) (j : List Two) : (upI j.length).map (fun x => f (j.getD x.toNat default)) = j.map f := by
  apply List.ext_getElem
  · simp [upI_len]
  · intro i h1 h2
    simp only [List.length_map] at h2
    simp [upI, h2]
theorem sA_up (j : List Two) : sA j (upI j.length) = cS j := by
  unfold sA cS
  rw [← map_up]
  rfl
theorem sB_up (j : List Two) : sB j (upI j.length) = sS j := by
  unfold sB sS
  rw [← map_up]
  rfl
/-- The span of Johnson's order lies between the bounds. -/
theorem span_bounds {j : List Two} (hlim : tlim j) (h0 : 0 < j.length) : cS j + mS j ≤ (spanF j (nat (johnL j))).2 ∧ sS j + mC j ≤ (spanF j (nat (johnL j))).2 ∧ (spanF j (nat (johnL j))).2 ≤ cS j + sS j := by
  have hl : ∀ x, 0 ≤ aI j x ∧ 0 ≤ bI j x := fun x => by
    have := lim_pos hlim x.toNat
    exact ⟨this.1, this.2.2.1⟩
  have hp := order_perm (johnL_order j)
  have hmem : ∀ x ∈ johnL j, ∃ k, k < j.length ∧ x = (k : Int) := fun x hx => by
    have := mem_upI.1 (hp.mem_iff.1 hx)
    exact ⟨x.toNat, by omega, by omega⟩
  have hne : johnL j ≠ [] := fun h => by
    have := johnL_len j
    rw [h] at this
    simp at this
    omega
  have eA : sA j (johnL j) = cS j := by rw [← sA_up]; exact sumI_perm (hp.map _)
  have eB : sB j (johnL j) = sS j := by rw [← sB_up]; exact sumI_perm (hp.map _)
  have h1 := tS_ge_last (j := j) (mn := mS j) (johnL j) hne (fun x hx => by obtain ⟨k, hk, rfl⟩ := hmem x hx; exact mS_le hk) (fun x _ => (hl x).2)
  have h2 := tS_ge_first (j := j) (mc := mC j) (johnL j) hne (fun x hx => by obtain ⟨k, hk, rfl⟩ := hmem x hx; exact mC_le hk)
  have h3 := tS_le (j := j) (johnL j) fun x _ => hl x
  have h4 := fold_tS (j := j) (fun x => (hl x).2) (johnL j) 0 0 (Int.le_refl _)
  have h5 := sA_nonneg (j := j) (johnL j) fun x _ => (hl x).1
  rw [eA] at h1 h3 h5
  rw [eB] at h2 h3
  unfold spanF
  rw [h4, eB]
  omega
end Go.Proofs.YtedbjmgchfgabaaDoor.Abs.Jb
namespace Go.Proofs.YtedbjmgchfgabaaDoor.Abs
set_option linter.unusedSimpArgs false
set_option linter.unusedVariables false
open Go.RowKit
open Go.Proofs.YtedbjmgchfgabaaDoor.Sim
/-- All cells of a memory's blocks have a property. -/
def CellsP (p : Value → Prop) (L : AM) : Prop := ∀ b, some b ∈ L → isMapK b.kind = false ∧ ∀ v ∈ b.cells, p v
theorem CellsP.nil {p : Value → Prop} : CellsP p [] := fun b h => by simp at h
theorem CellsP.none {p : Value → Prop} {L : AM} (h : CellsP p L) : CellsP p (none :: L) := fun b hb => h b (by simpa using hb)
theorem CellsP.cons {p : Value → Prop} {b : Blk} {L : AM} (hb : ∀ v ∈ b.cells, p v) (h : CellsP p L) (hk : isMapK b.kind = false := by rfl) : CellsP p (some b :: L) := fun c hc => by
  rcases List.mem_cons.1 hc with e | e
  · injection e with e; subst e; exact ⟨hk, hb⟩
  · exact h c e
theorem CellsP.gb {p : Value → Prop} {c : List Value} {s : Nat} {L : AM} (hb : ∀ v ∈ c, p v) (h : CellsP p L) : CellsP p (gb c s :: L) := by
  cases c with
  | nil => exact .none h
  | cons x l => exact .cons hb h
section
variable {P : Program} {nt : Nat} {m m0 : AM} {t : Fm} {Q : AEx → Fm → AM → Prop}
theorem AW.label {l : Nat} (h : Q .normal t m) : AW P nt m0 (.label l) t m Q := fun _ _ _ R _ _ _ _ hp ht => wp_label ⟨.normal, t, m, R, rfl, rfl, hp, ht, h⟩
end
section
variable {P : Program} {nt : Nat} {ops : Array Oper} {t : Fm} {m : AM} {K : Fm → AM → Prop} {d T : Nat} {p : String} {af : Array Edge}
/-- A call that leaves more memory: the caller goes on over this. -/
def More (S : AM → Value → Prop) (m : AM) : Value → AM → Prop := fun v m' => ∃ N, m' = m ++ N ∧ S m' v
theorem Step.callX {args : Array Operand} {tys : Array TypeId} {g : FuncId} {vs : List Value} {fn : Func} {b : Code} {S : AM → Value → Prop} (hP : Fit P) (ha : evL t args.toList = some vs) (hf : P.funcs[g]? = some fn) (hb : fn.body = some b)
    (hlt : Nat.blt d nt = true) (h : ACall P g vs.toArray m (More S m)) (hK : ∀ (v : Value) (M : AM), (∃ N, M = m ++ N) → S M v → K (put t d v) (M ++ [])) : Step P nt ops ⟨some d, .call ⟨.value (.func g), args, tys⟩, T, p, af, none⟩ t m K :=
  .callF hP ha hf hb hlt h (by
    rintro v m' ⟨N, rfl, hS⟩
    have := hK v (m ++ N) ⟨N, rfl⟩ hS
    rwa [List.append_nil] at this)
end
end Go.Proofs.YtedbjmgchfgabaaDoor.Abs
namespace Go.Proofs.YtedbjmgchfgabaaDoor.Abs
set_option linter.unusedSimpArgs false
set_option linter.unusedVariables false
open Go.RowKit
open Go.Proofs.YtedbjmgchfgabaaDoor.Sim
theorem Back.padC {M L : AM} {t : Fm} {m : AM} {l : List (Nat × Value)} (hm : m = M ++ L) (h : All (fun i v => t i = some v ∧ Ren rid (M.length + (L ++ [none]).length) v v) l) (hc : CellsP (fun v => Ren rid (M.length + (L ++ [none]).length) v v) L) : Back M t m l (L ++ [none]) := by
  subst hm
  refine .inr ⟨rid, by simp, fun _ _ => rfl, fun _ _ _ _ _ _ e => e, fun j b hj => ?_, fun i v hi => by
    obtain ⟨h1, h2⟩ := fr_all h i v hi
    exact ⟨v, h1, by simpa using h2⟩⟩
  have hj2 : (M ++ L)[j]? = some (some b) := by
    rw [← List.append_assoc] at hj
    rcases Nat.lt_or_ge j (M ++ L).length with hlt | hge
    · rwa [List.getElem?_append_left hlt] at hj
    · rw [List.getElem?_append_right hge] at hj
      cases q : j - (M ++ L).length with
      | zero => rw [q] at hj; simp at hj
      | succ q' => rw [q] at hj; simp at hj
  rcases Nat.lt_or_ge j M.length with hlt | hge
  · refine .inl ⟨hlt, hj2, ?_⟩
    rwa [List.getElem?_append_left hlt] at hj2
  · have hj3 := hj2
    rw [List.getElem?_append_right hge] at hj3
    refine .inr ⟨(hc b (List.mem_of_getElem? hj3)).1, b, hj2, rfl, rfl, rfl, fun k v hk => ⟨v, hk, ?_⟩⟩
    have := (hc b (List.mem_of_getElem? hj3)).2 v (List.mem_of_getElem? hk)
    simpa using this
/-- Several ways to one state: the memory is the same, of the slots some are named. -/
theorem AW.joinS {P : Program} {nt : Nat} {m m0 : AM} {t : Fm} {c rest : Code} {Q : AEx → Fm → AM → Prop} (l : List (Nat × Value)) (m1 : AM) (h : AW P nt m0 c t m (Then (fun t' m' => m' = m1 ∧ All (fun i v => t' i = some v) l) Q)) (h2 : AW P nt m0 rest (fr l) m1 Q) : AW P nt m0 (.seq c rest) t m Q :=
  .seq (h.mono fun e t m => by
    cases e
    · rintro ⟨rfl, ha⟩; exact AW.weak (fr_all ha) h2
    · exact id
    · exact id)
theorem AW.atL {P : Program} {nt : Nat} {m m0 : AM} {t : Fm} {id : Nat} {ops : Array Oper} {b : Bool} {Q : AEx → Fm → AM → Prop} (h : AW P nt m0 (.region id ops b) t m Q) : AW P nt m0 (.region id ops b) t m Q := h
/-- Several ways to one state behind a region. -/
theorem AW.via {P : Program} {nt : Nat} {m m0 : AM} {t : Fm} {c : Code} {Q : AEx → Fm → AM → Prop} (l : List (Nat × Value)) (m1 : AM) (h : AW P nt m0 c t m (fun e t' m' => e = .normal ∧ m' = m1 ∧ All (fun i v => t' i = some v) l)) (h2 : ∀ t', (∀ i v, fr l i = some v → t' i = some v) → Q .normal t' m1) : AW P nt m0 c t m Q :=
  h.mono fun e t' m' ⟨e1, e2, e3⟩ => by subst e1 e2; exact h2 t' (fr_all e3)
theorem AW.pad {P : Program} {nt : Nat} {M L : AM} {t : Fm} {c : Code} {Q : AEx → Fm → AM → Prop} (l : List (Nat × Value)) (h : All (fun i v => t i = some v ∧ Ren rid (M.length + (L ++ [none]).length) v v) l) (hc : CellsP (fun v => Ren rid (M.length + (L ++ [none]).length) v v) L)
    (hk : AW P nt M c (fr l) (M ++ (L ++ [none])) Q) : AW P nt M c t (M ++ L) Q := by
  intro base R0 w0 R a w hb h0 hp ht
  obtain ⟨R1, k1, k2⟩ := (Back.padC rfl h hc).ok h0 hp ht
  exact hk base R0 w0 R1 a w hb h0 k1 k2
section
variable {P : Program} {nt : Nat} {ops : Array Oper} {t : Fm} {m : AM} {K : Fm → AM → Prop} {d T : Nat} {p : String} {af : Array Edge}
end
end Go.Proofs.YtedbjmgchfgabaaDoor.Abs
namespace Go.Proofs.YtedbjmgchfgabaaDoor.Abs
set_option linter.unusedSimpArgs false
set_option linter.unusedVariables false
open Go.RowKit
open Go.Proofs.YtedbjmgchfgabaaDoor.Sim
section
variable {P : Program} {nt : Nat} {ops : Array Oper} {t : Fm} {m : AM} {K : Fm → AM → Prop} {d T : Nat} {p : String} {af : Array Edge}
theorem Step.appO {x y : Operand} {X Y e e' : TypeId} {by_ : Nat} {z : Array Value} {k q r n : Nat} {c : List Value} {new : Value} {M L L' : AM} (hk : L.length = k) (hx : evo t x = some (.slice (some ⟨M.length + q, 0, none⟩) n n)) (hy : evo t y = some (.slice (some ⟨M.length + r, 0, none⟩) 1 1)) (hE : elemB P X = some (e, 1, by_, z)) (hY : P.underlying Y = some (.slice e'))
    (hq : L[q]? = some (some { cells := c })) (hc : c.length = n) (hr : L[r]? = some (some { cells := [new] })) (hn1 : new.oneCell' = true) (hb : (n + 1) * by_ ≤ 1099511627776 ∧ n + 1 ≤ 1099511627776) (hlt : Nat.blt d nt = true)
    (hL : L ++ [some { cells := c ++ [new], kind := .grow, size := 1 }] = L') (hK : K (put t d (.slice (some ⟨M.length + k, 0, none⟩) (n + 1) (n + 1))) (M ++ L')) :
    Step P nt ops ⟨some d, .call ⟨.builtin .append, #[x, y], #[X, Y]⟩, T, p, af, none⟩ t (M ++ L) K := by
  subst hL
  refine .l rfl rfl hlt rfl (by simp [Op.operands, Call.operands, hx, hy]) (loudN hk rfl (v := .slice (some ⟨M.length + k, 0, none⟩) (n + 1) (n + 1)) ?_ hK)
  have hrl : r < L.length := (List.getElem?_eq_some_iff.1 hr).1
  have hql : q < L.length := (List.getElem?_eq_some_iff.1 hq).1
  have hcell : acells ((M ++ L) ++ [none]) 1 1 (.slice (some ⟨M.length + r, 0, none⟩) 1 1) = some [new] := by
    have hg : ((M ++ L) ++ [none])[M.length + r]? = some (some { cells := [new] }) := by rw [List.append_assoc, get_app, List.getElem?_append_left hrl, hr]
    simp only [acells, hg]
    simp
  have hg : ((M ++ L) ++ [none])[M.length + q]? = some (some { cells := c }) := by rw [List.append_assoc, get_app, List.getElem?_append_left hql, hq]
  simp only [aloud, evD_of hx, evD_of hy, aappend, hE, hY, aSliceLen, hcell]
  rw [if_neg (by simp [hn1]), if_neg (by omega)]
  simp only [hg]
  rw [if_neg (by omega), if_pos ⟨hb.1, hb.2, Nat.le_refl _⟩, if_pos (by simp [hc])]
  rw [set_new_at M L hk]
  simp [List.take_of_length_le (show c.length ≤ n by omega)]
end
end Go.Proofs.YtedbjmgchfgabaaDoor.Abs
namespace Go.Proofs.YtedbjmgchfgabaaDoor.Abs
set_option linter.unusedSimpArgs false
set_option linter.unusedVariables false
open Go.RowKit
open Go.Proofs.YtedbjmgchfgabaaDoor.Sim
/-- What holds from here on may rest on the memory as it is now. -/
theorem AW.rebase {P : Program} {nt : Nat} {m0 m : AM} {c : Code} {t : Fm} {Q : AEx → Fm → AM → Prop} (h : AW P nt m c t (m ++ []) Q) : AW P nt m0 c t m Q := by
  rw [List.append_nil] at h
  intro base R0 w0 R a w hb h0 hp ht
  refine wp_mono (h base R w R a w (Nat.le_trans hb hp.size) hp.rep (.refl hp.rep) ht) ?_
  rintro ex a' w' ⟨e, t', m', R', h1, h2, h3, h4, h5⟩
  exact ⟨e, t', m', R', h1, h2, hp.trans h3, h4, h5⟩
section
variable {P : Program} {nt : Nat} {ops : Array Oper} {t : Fm} {m : AM} {K : Fm → AM → Prop} {d T : Nat} {p : String} {af : Array Edge}
/-- The tail of a row that ends a block of one's own, whether it is empty or not. -/
def tailV (a o n c : Nat) : Value := if n = 0 then .slice (some ⟨a, o, none⟩) 0 0 else .slice (some ⟨a, o + 1, none⟩) n c
/-- Such a row. -/
def OwnAt (M : AM) (a : Nat) (L : AM) : Prop := ∃ b, (M ++ L)[a]? = some (some b) ∧ b.kind = .own
theorem OwnAt.new {M L : AM} {k : Nat} {b : Blk} (h : L[k]? = some (some b)) (hk : b.kind = .own) : OwnAt M (M.length + k) L := ⟨b, by rw [get_app]; exact h, hk⟩
theorem Step.tail {x y : Operand} {X e a o n : Nat} {kk : IntKind} {M L L' : AM} (hx : evo t x = some (.slice (some ⟨a, o, none⟩) (n + 1) (n + 1))) (hy : evo t y = some (.int kk 1)) (ho : OwnAt M a L) (hX : P.underlying X = some (.slice e)) (hsz : szB P e = some 1)
    (hlt : Nat.blt d nt = true) (hL : L ++ [none] = L') (hK : K (put t d (tailV a o n n)) (M ++ L')) : Step P nt ops ⟨some d, .slice X x (some y) none none, T, p, af, none⟩ t (M ++ L) K := by
  subst hL
  obtain ⟨b, hb, hk⟩ := ho
  refine .l rfl rfl hlt (by simp [stillB, hX]) (by simp [Op.operands, hx, hy]) (loudN (L := L) rfl rfl (v := tailV a o n n) ?_ hK)
  have b2 : bnd 0 (some (evD t y)) = some 1 := by rw [evD_of hy]; simp [bnd]
  have hb' : ((M ++ L) ++ [none])[a]? = some (some b) := get_old _ hb
  simp only [aloud, evD_of hx, aslice, hX, hsz, Option.map_some, Option.map_none, b2, hb']
  simp only [bnd]
  rw [if_pos (by omega), List.append_assoc]
  by_cases h : n = 0
  · subst h
    rw [if_neg (by omega)]
    simp [hk, tailV]
  · rw [if_pos (by omega)]
    simp [tailV, h]
end
end Go.Proofs.YtedbjmgchfgabaaDoor.Abs
namespace Go.Proofs.YtedbjmgchfgabaaDoor.Abs
open Go.RowKit
open Go.Proofs.YtedbjmgchfgabaaDoor.Sim
/-- A value that names old blocks alone. -/
def Low (N : Nat) (v : Value) : Prop := ∀ (ρ : Nat → Nat) (n : Nat), (∀ i, i < N → ρ i = i) → N ≤ n → Ren ρ n v v
theorem Low.ptr {N a o : Nat} (h : a < N) : Low N (.pointer (some ⟨a, o, none⟩)) := fun ρ n hρ hn => by
  have := Ren.ptr (ρ := ρ) (n := n) a o (by omega)
  rwa [hρ a h] at this
theorem Low.slice {N a o l c : Nat} (h : a < N) : Low N (.slice (some ⟨a, o, none⟩) l c) := fun ρ n hρ hn => by
  have := Ren.slice (ρ := ρ) (n := n) a o l c (by omega)
  rwa [hρ a h] at this
theorem Low.spot {N a o k : Nat} (h : a < N) : Low N (.slice (some ⟨a, o, some k⟩) 0 0) := fun ρ n hρ hn => by
  have := Ren.sliceSpot (ρ := ρ) (n := n) a o k (by omega)
  rwa [hρ a h] at this
theorem Low.of_sl {N a o k : Nat} {v : Value} (h : Sl v a o k) (ha : a < N) : Low N v := by
  rcases h with ⟨rfl, _⟩ | ⟨c, _, rfl⟩ | ⟨_, o', k', rfl⟩
  · exact fun _ _ _ _ => .sliceNil
  · exact .slice ha
  · exact .spot ha
theorem Low.func {N : Nat} {fn : Fn} {c : List Value} (h : ∀ v ∈ c, Low N v) : Low N (.func fn #[] c.toArray) := fun ρ n hρ hn => by
  refine .func fn #[] c.toArray #[] c.toArray rfl (fun i hi => by simp at hi) rfl fun i hi => ?_
  have hi' : i < c.length := by simpa using hi
  have := h c[i] (List.getElem_mem hi') ρ n hρ hn
  simpa [hi'] using this
theorem Low.rid {N n : Nat} {v : Value} (h : Low N v) (hn : N ≤ n) : Ren rid n v v := h _ _ (fun _ _ => rfl) hn
theorem Low.sg {N n : Nat} {σ : List Nat} {v : Value} (h : Low N v) (hn : N ≤ n) : Ren (sg N σ) n v v := h _ _ (fun _ hi => sg_old hi) hn
theorem Low.ne {N n p q : Nat} {v : Value} (h : Low N v) (hn : N ≤ n) : Ren (fun i => if i = N + p then N + q else i) n v v := h _ _ (fun _ hi => if_neg (by omega)) hn
end Go.Proofs.YtedbjmgchfgabaaDoor.Abs
namespace Go.Proofs.YtedbjmgchfgabaaDoor.Abs
set_option linter.unusedSimpArgs false
set_option linter.unusedVariables false
open Go.RowKit
open Go.Proofs.YtedbjmgchfgabaaDoor.Sim
/-- Done so far, and one more. -/
def upL (L : Nat → Bool) (i : Nat) : Nat → Bool := fun j => cond (Nat.beq j i) true (L j)
theorem upL_same (L : Nat → Bool) (i : Nat) : upL L i i = true := by simp [upL]
theorem upL_ne (L : Nat → Bool) {i j : Nat} (h : j ≠ i) : upL L i j = L j := by
  have : Nat.beq j i = false := by
    cases e : Nat.beq j i with
    | false => rfl
    | true => exact absurd (Nat.eq_of_beq_eq_true e) h
  simp [upL, this]
def cntL (L : Nat → Bool) : Nat → Nat
  | 0 => 0
  | n + 1 => cntL L n + cond (L n) 0 1
theorem cntL_eq (L L' : Nat → Bool) : ∀ n, (∀ j, j < n → L j = L' j) → cntL L n = cntL L' n
  | 0, _ => rfl
  | n + 1, h => by simp only [cntL]; rw [h n (by omega), cntL_eq L L' n fun j hj => h j (by omega)]
theorem cntL_up (L : Nat → Bool) (i : Nat) (hi : L i = false) : ∀ n, i < n → cntL (upL L i) n + 1 = cntL L n
  | 0, h => by omega
  | n + 1, h => by
    simp only [cntL]
    by_cases e : i = n
    · subst e
      rw [upL_same, hi, cntL_eq (upL L i) L i fun j hj => upL_ne L (by omega)]; simp
    · rw [upL_ne L (show n ≠ i by omega), ← cntL_up L i hi n (by omega)]; omega
theorem cntL_zero (L : Nat → Bool) : ∀ n, cntL L n = 0 → ∀ j, j < n → L j = true
  | 0, _, j, hj => by omega
  | n + 1, h, j, hj => by
    simp only [cntL] at h
    by_cases e : j = n
    · subst e
      cases hl : L j with
      | true => rfl
      | false => rw [hl] at h; simp at h
    · exact cntL_zero L n (by omega) j (by omega)
theorem cntL_le (L : Nat → Bool) : ∀ n, cntL L n ≤ n
  | 0 => Nat.le_refl _
  | n + 1 => by
    have := cntL_le L n
    simp only [cntL]
    cases L n <;> simp <;> omega
/-- What an operation waits for. -/
def depsO (o : Oper) : List Nat := (o.after.toList.filter fun e => Region.binds .any e).map (·.on)
def backB (l : List Oper) : Bool := (List.range l.length).all fun i => match l[i]? with
  | some o => (depsO o).all fun j => Nat.blt j i
  | none => true
section
variable {P : Program} {nt : Nat} {t : Fm} {m m0 : AM} {l : List Oper}
theorem AWd.inv {Q : Fm → AM → Prop} (Inv : (Nat → Bool) → Fm → AM → Prop) (hb : backB l = true)
    (hs : ∀ (i : Nat) (o : Oper), l[i]? = some o → ∀ (L : Nat → Bool) (t : Fm) (m : AM), Inv L t m → L i = false → (∀ j ∈ depsO o, L j = true) → Step P nt l.toArray o t m (fun t m => Inv (upL L i) t m))
    (he : ∀ (L : Nat → Bool) (t : Fm) (m : AM), (∀ i, i < l.length → L i = true) → Inv L t m → Q t m) :
    ∀ (f : Nat) (listed : Array Bool) (L : Nat → Bool) (t : Fm) (m : AM), listed.size = l.length → (∀ i, i < l.length → listed.getD i false = L i) → cntL L l.length ≤ f → Inv L t m → AWd P nt l.toArray Q f listed t m := by
  have hend : ∀ (listed : Array Bool) (L : Nat → Bool), listed.size = l.length → (∀ i, i < l.length → listed.getD i false = L i) → Region.ready .any l.toArray listed = [] → ∀ i, i < l.length → L i = true := by
    intro listed L hsz hL hr i
    induction i using Nat.strongRecOn with
    | _ i ih =>
      intro hi
      cases hl : L i with
      | true => rfl
      | false =>
        have hlt : i < listed.size := by omega
        have hli : listed.getD i false = false := by rw [hL i hi]; exact hl
        have hmem : i ∈ Region.ready .any l.toArray listed := mem_ready.2 ⟨by
          simp only [Array.getD_eq_getD_getElem?, Array.getElem?_eq_getElem hlt, Option.getD_some] at hli ⊢
          exact hli, l[i], by simp [hi], fun e he hb' => by
            have h1 := List.all_eq_true.1 hb i (List.mem_range.2 hi)
            rw [List.getElem?_eq_getElem hi] at h1
            have h2 := List.all_eq_true.1 h1 e.on (List.mem_map.2 ⟨e, List.mem_filter.2 ⟨by simpa using he, hb'⟩, rfl⟩)
            have h3 : e.on < i := by simpa using h2
            rw [hL e.on (by omega)]
            exact ih e.on h3 (by omega)⟩
        rw [hr] at hmem; cases hmem
  intro f
  induction f with
  | zero =>
    intro listed L t m hsz hL hc hI
    have hall := cntL_zero L l.length (by omega)
    refine ⟨?_, he L t m hall hI⟩
    cases hr : Region.ready .any l.toArray listed with
    | nil => rfl
    | cons i r =>
      obtain ⟨h1, o, h2, _⟩ := mem_ready.1 (show i ∈ Region.ready .any l.toArray listed by rw [hr]; simp)
      have hi : i < l.length := by have := (Array.getElem?_eq_some_iff.1 h2).1; simpa using this
      have h3 := hL i hi
      rw [hall i hi] at h3
      have hlt : i < listed.size := by omega
      simp only [Array.getD_eq_getD_getElem?, Array.getElem?_eq_getElem hlt, Option.getD_some] at h3 h1
      rw [h3] at h1; cases h1
  | succ f ih =>
    intro listed L t m hsz hL hc hI
    refine ⟨fun hr => he L t m (hend listed L hsz hL hr) hI, fun i hi o ho => ?_⟩
    obtain ⟨h1, o', h2, h3⟩ := mem_ready.1 hi
    rw [ho] at h2; injection h2 with h2; subst h2
    have ho' : l[i]? = some o := by simpa using ho
    have hil : i < l.length := (List.getElem?_eq_some_iff.1 ho').1
    have hlt : i < listed.size := by omega
    have hLi : L i = false := by
      rw [← hL i hil]
      simp only [Array.getD_eq_getD_getElem?, Array.getElem?_eq_getElem hlt, Option.getD_some] at h1 ⊢
      exact h1
    refine (hs i o ho' L t m hI hLi fun j hj => ?_).mono fun v m' hk => ?_
    · obtain ⟨e, e1, e2⟩ := List.mem_map.1 hj
      obtain ⟨e3, e4⟩ := List.mem_filter.1 e1
      have := h3 e (by simpa using e3) e4
      subst e2
      have hd := List.all_eq_true.1 hb i (List.mem_range.2 hil)
      rw [List.getElem?_eq_getElem hil] at hd
      have hoi : l[i] = o := by rw [List.getElem?_eq_getElem hil] at ho'; injection ho'
      rw [hoi] at hd
      have h5 := List.all_eq_true.1 hd e.on hj
      have h6 : e.on < i := by simpa using h5
      rw [← hL e.on (by omega)]; exact this
    · refine ih _ (upL L i) _ m' (by simpa using hsz) (fun j hj => ?_) (by have := cntL_up L i hLi l.length hil; omega) hk
      by_cases e : j = i
      · subst e
        rw [upL_same]; simp [hlt]
      · rw [upL_ne L e, ← hL j hj]
        simp only [Array.getD_eq_getD_getElem?]
        rw [Array.getElem?_setIfInBounds_ne (Ne.symm e)]
/-- A region that draws, by what holds whatever was done so far. -/
theorem AW.anyI (hP : Fit P) {id : Nat} {Q : AEx → Fm → AM → Prop} (Inv : (Nat → Bool) → Fm → AM → Prop) (hb : backB l = true) (h0 : Inv (fun _ => false) t m)
    (hs : ∀ (i : Nat) (o : Oper), l[i]? = some o → ∀ (L : Nat → Bool) (t : Fm) (m : AM), Inv L t m → L i = false → (∀ j ∈ depsO o, L j = true) → Step P nt l.toArray o t m (fun t m => Inv (upL L i) t m))
    (he : ∀ (L : Nat → Bool) (t : Fm) (m : AM), (∀ i, i < l.length → L i = true) → Inv L t m → Q .normal t m) : AW P nt m0 (.region id l.toArray true) t m Q :=
  .all hP (AWd.inv Inv hb hs he _ _ (fun _ => false) t m (by simp) (fun i hi => by simp [hi]) (by simpa using cntL_le (fun _ => false) l.length) h0)
end
end Go.Proofs.YtedbjmgchfgabaaDoor.Abs
namespace Go.Proofs.YtedbjmgchfgabaaDoor.Abs
set_option linter.unusedSimpArgs false
set_option linter.unusedVariables false
open Go.RowKit
open Go.Proofs.YtedbjmgchfgabaaDoor.Sim
section
variable {P : Program} {nt : Nat} {ops : Array Oper} {t : Fm} {m : AM} {K : Fm → AM → Prop} {d T : Nat} {p : String} {af : Array Edge}
/-- A variable is set as a whole. -/
theorem Step.storeG {x y : Operand} {ty : TypeId} {a n : Nat} {v : Value} {b : Blk} (hx : evo t x = some (.pointer (some ⟨a, 0, none⟩))) (hy : evo t y = some v) (hb : m[a]? = some (some b)) (hs : b.kind.solid = true) (hz : szB P ty = some n) (hc : v.cells.size = n) (h1 : v.cells.all (·.oneCell') = true) (ho : b.cells.length = n)
    (hK : K t (m.set a (some { b with cells := v.cells.toList }))) : Step P nt ops ⟨none, .store ty x y, T, p, af, none⟩ t m K := by
  have := Step.storeA (P := P) (nt := nt) (ops := ops) (T := T) (p := p) (af := af) (M := []) (L := m) (k := a) (ty := ty) (K := K) (by simpa using hx) hy hb hs hz hc h1 ho rfl (by simpa using hK)
  simpa using this
/-- One cell is set. -/
theorem Step.storeC {x y : Operand} {ty : TypeId} {a o : Nat} {v : Value} {b : Blk} (hx : evo t x = some (.pointer (some ⟨a, o, none⟩))) (hy : evo t y = some v) (hb : m[a]? = some (some b)) (hs : b.kind.solid = true) (hz : szB P ty = some 1) (hc : v.cells = #[v]) (h1 : v.oneCell' = true) (ho : o < b.cells.length)
    (hK : K t (m.set a (some { b with cells := b.cells.set o v }))) : Step P nt ops ⟨none, .store ty x y, T, p, af, none⟩ t m K := by
  have := Step.store (P := P) (nt := nt) (ops := ops) (T := T) (p := p) (af := af) (M := []) (L := m) (k := a) (ty := ty) (K := K) (by simpa using hx) hy hb hs hz hc h1 ho rfl (by simpa using hK)
  simpa using this
theorem Step.appB {x y : Operand} {X Y e e' : TypeId} {by_ s r n : Nat} {z : Array Value} {c : List Value} {new : Value} (hx : evo t x = some (.slice (some ⟨s, 0, none⟩) n n)) (hy : evo t y = some (.slice (some ⟨r, 0, none⟩) 1 1)) (hE : elemB P X = some (e, 1, by_, z)) (hY : P.underlying Y = some (.slice e'))
    (hq : m[s]? = some (some { cells := c, kind := .grow, size := 1 })) (hc : c.length = n) (hr : m[r]? = some (some { cells := [new] })) (hn1 : new.oneCell' = true) (hb : (n + 1) * by_ ≤ 1099511627776 ∧ n + 1 ≤ 1099511627776) (hlt : Nat.blt d nt = true)
    (hK : K (put t d (.slice (some ⟨m.length, 0, none⟩) (n + 1) (n + 1))) ((m.set s none) ++ [some { cells := c ++ [new], kind := .grow, size := 1 }])) :
    Step P nt ops ⟨some d, .call ⟨.builtin .append, #[x, y], #[X, Y]⟩, T, p, af, none⟩ t m K := by
  refine .l rfl rfl hlt rfl (by simp [Op.operands, Call.operands, hx, hy]) (loud_of_aloud (v := .slice (some ⟨m.length, 0, none⟩) (n + 1) (n + 1)) (m' := (m.set s none) ++ [some { cells := c ++ [new], kind := .grow, size := 1 }]) rfl ?_ hK)
  have hsl : s < m.length := (List.getElem?_eq_some_iff.1 hq).1
  have hcell : acells (m ++ [none]) 1 1 (.slice (some ⟨r, 0, none⟩) 1 1) = some [new] := by
    have hg : (m ++ [none])[r]? = some (some { cells := [new] }) := get_old _ hr
    simp only [acells, hg]
    simp
  have hg : (m ++ [none])[s]? = some (some { cells := c, kind := .grow, size := 1 }) := get_old _ hq
  simp only [aloud, evD_of hx, evD_of hy, aappend, hE, hY, aSliceLen, hcell]
  rw [if_neg (by simp [hn1]), if_neg (by omega)]
  simp only [hg]
  rw [if_neg (by omega), if_pos ⟨hb.1, hb.2, Nat.le_refl _⟩, if_pos ⟨by simp [hc], trivial⟩]
  simp only [List.drop_zero, Option.some.injEq, Prod.mk.injEq, true_and]
  rw [List.set_append_left _ _ hsl, List.set_append_right _ _ (by simp)]
  simp [List.take_of_length_le (show c.length ≤ n by omega)]
theorem still_nilP {X e : TypeId} (hX : P.underlying X = some (.pointer e)) (n : Nat) : Sim.still P (Op.equalIn (n + 1) X (.pointer none) (.pointer none)) = some true := by
  rw [Op.equalIn]
  show Sim.still P (Sem.bind (underlying X) _) = _
  rw [still_bind]
  have : Sim.still P (underlying X) = some (.pointer e) := by
    unfold underlying
    show Sim.still P (Sem.bind program _) = _
    rw [still_bind]
    simp [program, Sim.still, hX, pure]
  rw [this]
  rfl
theorem Step.ptrNil {x y : Operand} {X Y e : TypeId} (hx : evo t x = some (.pointer none)) (hy : evo t y = some (.pointer none)) (hX : P.underlying X = some (.pointer e)) (hlt : Nat.blt d nt = true) (hK : K (put t d (.bool true)) m) : Step P nt ops ⟨some d, .binOp .eql X x y Y, T, p, af, none⟩ t m K := by
  refine .ground rfl rfl hlt (by simp [Op.operands, hx, hy, g1, g0]) (fun h => by simp only [aquiet, evD_of hx, evD_of hy, aint, anil, hX]; simpa [evD_of hx, evD_of hy] using h) ?_ (by simp [g1, g0]) hK
  have he := still_nilP hX 9999
  simp only [execOp, eqGuard, binOp, evD_of hx, evD_of hy, bind, Sem.bind, pure]
  show Sim.still P (((Op.equalIn (9999 + 1) X (.pointer none) (.pointer none)).bind _).bind _) = _
  rw [still_bind, still_bind, he]
  rfl
theorem Step.ptrNot {x y : Operand} {X Y : TypeId} {a o : Nat} {e : TypeId} (hx : evo t x = some (.pointer (some ⟨a, o, none⟩))) (hy : evo t y = some (.pointer none)) (hX : P.underlying X = some (.pointer e)) (hlt : Nat.blt d nt = true) (hK : K (put t d (.bool false)) m) : Step P nt ops ⟨some d, .binOp .eql X x y Y, T, p, af, none⟩ t m K :=
  .q rfl rfl hlt (by simp [Op.operands, hx, hy]) (by simp [aquiet, evD_of hx, evD_of hy, aint, anil, hX, bEq]) hK
/-- A whole array of one's own as a slice. -/
theorem Step.arr {x : Operand} {X e a len : Nat} {M L L' : AM} (hx : evo t x = some (.pointer (some ⟨a, 0, none⟩))) (ho : OwnAt M a L) (hX : P.underlying X = some (.array len e)) (hsz : szB P e = some 1) (h0 : Nat.blt 0 len = true)
    (hlt : Nat.blt d nt = true) (hL : L ++ [none] = L') (hK : K (put t d (.slice (some ⟨a, 0, none⟩) len len)) (M ++ L')) : Step P nt ops ⟨some d, .slice X x none none none, T, p, af, none⟩ t (M ++ L) K := by
  subst hL
  obtain ⟨b, hb, hk⟩ := ho
  have h0' : 0 < len := by simpa using h0
  refine .l rfl rfl hlt (by simp [stillB, hX]) (by simp [Op.operands, hx]) (loudN (L := L) rfl rfl (v := .slice (some ⟨a, 0, none⟩) len len) ?_ hK)
  have hb' : ((M ++ L) ++ [none])[a]? = some (some b) := get_old _ hb
  simp only [aloud, evD_of hx, aslice, hX, hsz, Option.map_none, hb']
  simp only [bnd]
  rw [if_pos ⟨Nat.zero_le _, Nat.le_refl _, .inl hk⟩, List.append_assoc]
  simp
end
end Go.Proofs.YtedbjmgchfgabaaDoor.Abs
namespace Go.Proofs.YtedbjmgchfgabaaDoor.Abs
open Go.RowKit
open Go.Proofs.YtedbjmgchfgabaaDoor.Sim
/-- What a call made and does not return is let go. -/
theorem ACall.drop {P : Program} {f : FuncId} {args : Array Value} {m : AM} {r : Value} (hr : Ren rid m.length r r) (h : ACall P f args m (fun v m' => v = r ∧ ∃ N, m' = m ++ N)) : ACall P f args m (Ret r m) := by
  intro base R w args' hb hm ha
  refine (h base R w args' hb hm ha).mono ?_
  rintro e w' ⟨v, v', R', m', he, hrel, hpost, rfl, N, rfl⟩
  obtain ⟨R1, h1, h2⟩ := (Gc.drop (M := m) (L := N) (t := fr [(0, v)]) (l := [(0, v)]) ⟨⟨rfl, hr⟩, trivial⟩).ok hm hpost (nt := 1) (u := #[v']) ⟨rfl, fun i x hi => by
    by_cases e : i = 0
    · subst e
      have : some v = some x := hi
      injection this with this; subst this
      exact hrel
    · have : fr [(0, v)] i = none := by show put (fr []) 0 v i = none; rw [put_ne _ _ e]; rfl
      rw [this] at hi; cases hi⟩
  exact ⟨v, v', R1, m, he, h2.rel 0 v rfl, h1, rfl, rfl⟩
end Go.Proofs.YtedbjmgchfgabaaDoor.Abs
namespace Go.Proofs.YtedbjmgchfgabaaDoor.Abs
open Go.RowKit
open Go.Proofs.YtedbjmgchfgabaaDoor.Sim
theorem Ren.aggI {ρ : Nat → Nat} {n : Nat} (l : List Int) : Ren ρ n (.agg (iv l).toArray) (.agg (iv l).toArray) :=
  .agg _ _ rfl fun i hi => by
    have hi' : i < l.length := by simpa [iv] using hi
    have : (iv l).toArray.getD i undef = .int .i64 l[i] := by simp [iv, hi']
    rw [this]; exact .int _ _
end Go.Proofs.YtedbjmgchfgabaaDoor.Abs
namespace Go.Proofs.YtedbjmgchfgabaaDoor.Abs
open Go.RowKit
open Go.Proofs.YtedbjmgchfgabaaDoor.Sim
/-- A result that is read out of a variable. -/
theorem ares_cell {P : Program} {fn : Func} {t : Fm} {m : AM} {a i n : Nat} {ty : TypeId} {c : List Value} (hr : fn.results = #[.cell a ty]) (ht : t a = some (.pointer (some ⟨i, 0, none⟩))) (hg : aggB P ty = some true) (hn : szB P ty = some n) (h1 : RdL m i 0 c) (h3 : c.length = n) (hn1 : Nat.blt 0 n = true) :
    ares P fn t m = some (.agg c.toArray) := by
  obtain ⟨b, k1, k2⟩ := h1
  simp at hn1
  have hlast := k2 (n - 1) c[n - 1] (List.getElem?_eq_getElem (by omega))
  have hlen := (List.getElem?_eq_some_iff.1 hlast).1
  have hc : (b.cells.drop 0).take n = c := by
    apply List.ext_getElem?
    intro j
    by_cases hj : j < n
    · rw [List.getElem?_take, if_pos hj, List.getElem?_drop, k2 j c[j] (List.getElem?_eq_getElem (by omega)), List.getElem?_eq_getElem (by omega)]
    · rw [List.getElem?_take, if_neg hj, List.getElem?_eq_none (by omega)]
  have h0 : 0 + n ≤ b.cells.length := by omega
  have hl : aload P m ty (.pointer (some ⟨i, 0, none⟩)) = some (.agg c.toArray) := by simp only [aload, k1, hg, hn]; rw [if_pos h0, hc]
  have hL : aresL P t m fn.results.toList = some [.agg c.toArray] := by rw [hr]; simp only [aresL, ares1, ht, hl]
  unfold ares
  rw [hL]
end Go.Proofs.YtedbjmgchfgabaaDoor.Abs
namespace Go.Proofs.YtedbjmgchfgabaaDoor.Abs
set_option linter.unusedSimpArgs false
set_option linter.unusedVariables false
open Go.RowKit
open Go.Proofs.YtedbjmgchfgabaaDoor.Sim
section
variable {P : Program} {nt : Nat} {ops : Array Oper} {t : Fm} {m : AM} {K : Fm → AM → Prop} {d T : Nat} {p : String} {af : Array Edge}
/-- A byte of a string, as a number. -/
def byteAt (s : ByteArray) (i : Nat) : Nat := (s[i]?.getD 0).toNat
theorem Step.strIx {x y : Operand} {X : TypeId} {s : ByteArray} {kk : IntKind} {i : Nat} (hx : evo t x = some (.string s)) (hy : evo t y = some (.int kk ((i : Nat) : Int))) (hX : P.underlying X = some .string) (hi : i < s.size)
    (hlt : Nat.blt d nt = true) (hK : K (put t d (.int .u8 (byteAt s i : Nat))) m) : Step P nt ops ⟨some d, .index X x y, T, p, af, none⟩ t m K := by
  refine .ground rfl rfl hlt (by simp [Op.operands, hx, hy, g1, g0]) (fun h => by simp only [aquiet, evD_of hx]; exact h) ?_ (by simp [g1, g0]) hK
  have hb : s[i]? = some s[i] := getElem?_pos s i hi
  simp only [execOp, evD_of hx, evD_of hy, bind]
  rw [still_bind]
  unfold Instr.index
  simp only [bind]
  rw [still_bind]
  simp only [asIntOf, pure]
  rw [show Sim.still P (Sem.pure (kk, ((i : Nat) : Int))) = some (kk, ((i : Nat) : Int)) from rfl]
  simp only [Option.bind_some]
  rw [still_bind, still_und hX]
  simp only [Option.bind_some, Int.natCast_nonneg, if_true, Int.toNat_natCast, hb]
  simp [byteAt, hb, Sim.still]
theorem Step.lenS {x : Operand} {X : TypeId} {s : ByteArray} (hx : evo t x = some (.string s)) (hX : P.underlying X = some .string)
    (hlt : Nat.blt d nt = true) (hK : K (put t d (.int .i64 (s.size : Nat))) m) : Step P nt ops ⟨some d, .call ⟨.builtin .len, #[x], #[X]⟩, T, p, af, none⟩ t m K := by
  refine .ground rfl rfl hlt (by simp [Op.operands, Call.operands, hx, g1, g0]) (fun h => by simp only [aquiet, evD_of hx, alen, hX]; simpa [evD_of hx] using h) ?_ (by simp [g1, g0]) hK
  have h1 : Sim.still P (Builtin.len_ #[X] T #[.string s]) = some (.int .i64 (s.size : Nat)) := by
    unfold Builtin.len_
    show Sim.still P (Sem.bind (underlying X) _) = _
    rw [still_bind, still_und hX]
    rfl
  simp [execOp, resolve, invoke, builtin, evD_of hx, bind, Sem.bind, pure]
  rw [still_bind, h1]
  rfl
/-- Strings compared. -/
theorem Step.neqS {x y : Operand} {X Y : TypeId} {a b : ByteArray} (hx : evo t x = some (.string a)) (hy : evo t y = some (.string b)) (hX : P.underlying X = some .string) (hlt : Nat.blt d nt = true) (hK : K (put t d (.bool (!(a.toList == b.toList)))) m) : Step P nt ops ⟨some d, .binOp .neq X x y Y, T, p, af, none⟩ t m K := by
  refine .ground rfl rfl hlt (by simp [Op.operands, hx, hy, g1, g0]) (fun h => by simp only [aquiet, evD_of hx, evD_of hy, aint, anil, hX]; simpa [evD_of hx, evD_of hy] using h) ?_ (by simp [g1, g0]) hK
  simp only [execOp, eqGuard, binOp, evD_of hx, evD_of hy, bind, Sem.bind, pure]
  rfl
/-- Bytes: a difference, as an int. -/
theorem u8_in {n : Int} (h : 0 ≤ n ∧ n ≤ 255) : IntKind.u8.wrap n = n := by
  simp only [IntKind.wrap, IntKind.signed, IntKind.bits]
  simp
  omega
theorem Step.subU {X Y : TypeId} {x y : Operand} {a b : Int} (hx : evo t x = some (.int .u8 a)) (hy : evo t y = some (.int .u8 b)) (hr : 0 ≤ a - b ∧ a - b ≤ 255) (hlt : Nat.blt d nt = true) (hK : K (put t d (.int .u8 (a - b))) m) : Step P nt ops ⟨some d, .binOp .sub X x y Y, T, p, af, none⟩ t m K :=
  .bin hx hy (by simp [aint, u8_in hr]) hlt hK
theorem Step.u8I {x : Operand} {S D : TypeId} {a : Int} (hx : evo t x = some (.int .u8 a)) (hS : P.underlying S = some (.int .u8)) (hD : P.underlying D = some (.int .i64)) (hr : 0 ≤ a ∧ a ≤ 255) (hlt : Nat.blt d nt = true) (hK : K (put t d (.int .i64 a)) m) :
    Step P nt ops ⟨some d, .convert S D x, T, p, af, none⟩ t m K := by
  refine .ground rfl rfl hlt (by simp [Op.operands, hx, g1, g0]) (fun h => by simpa [aquiet] using h) ?_ (by simp [g1, g0]) hK
  have hw : IntKind.i64.wrap a = a := IntWalk.i64_in _ (by omega)
  simp only [execOp, evD_of hx, bind]
  rw [still_bind]
  unfold convert
  simp only [bind]
  rw [still_bind, still_und hS]
  simp only
  rw [still_bind, still_und hD]
  simp [Conv.intToInt, hw, pure, Sim.still]
def mks (l : List (Int × Value)) : List (Value × Value) := l.map fun e => (.int .i64 e.1, e.2)
def mlook (l : List (Int × Value)) (k : Int) : Option Value := match l with
  | [] => none
  | e :: l => if k = e.1 then some e.2 else mlook l k
theorem keyIn_mks {k : Int} : ∀ (l : List (Int × Value)) (i : Nat),
    match mlook l k with
    | none => keyIn (.int .i64) (.int .i64 k) (mks l) i = some none
    | some v => ∃ j a, keyIn (.int .i64) (.int .i64 k) (mks l) i = some (some (i + j)) ∧ (mks l)[j]? = some (a, v)
  | [], i => rfl
  | e :: l, i => by
    by_cases h : k = e.1
    · simp only [mlook, if_pos h]
      exact ⟨0, .int .i64 e.1, by simp [mks, keyIn, Instr.sameNow, h], rfl⟩
    · simp only [mlook, if_neg h]
      have ih := keyIn_mks (k := k) l (i + 1)
      have hs : keyIn (.int .i64) (.int .i64 k) (mks (e :: l)) i = keyIn (.int .i64) (.int .i64 k) (mks l) (i + 1) := by
        have hq : (k == e.1) = false := by simpa using h
        simp [mks, keyIn, Instr.sameNow, hq]
      rw [hs]
      cases hl : mlook l k with
      | none => rw [hl] at ih; exact ih
      | some v =>
        rw [hl] at ih
        obtain ⟨j, a, h1, h2⟩ := ih
        exact ⟨j + 1, a, by rw [h1]; congr 2; omega, by simpa [mks] using h2⟩
theorem Step.mapGet {x y : Operand} {X kt et a : Nat} {k : Int} {b : Blk} {z : Value} {l : List (Int × Value)} (hx : evo t x = some (.map (some a))) (hy : evo t y = some (.int .i64 k)) (hb : m[a]? = some (some b)) (hk : isMapK b.kind = true) (he : b.ents = mks l)
    (hX : P.underlying X = some (.map kt et)) (hkt : P.underlying kt = some (.int .i64)) (hz : zeroG P et = some z) (hlt : Nat.blt d nt = true) (hK : K (put t d ((mlook l k).getD z)) m) : Step P nt ops ⟨some d, .lookup X x y false, T, p, af, none⟩ t m K := by
  refine .q (v := (mlook l k).getD z) rfl rfl hlt (by simp [Op.operands, hx, hy]) ?_ hK
  have hq := keyIn_mks (k := k) l 0
  simp only [aquiet, evD_of hx, evD_of hy, alookup, hX, hkt, aents, hb, hk, if_true, he]
  rw [if_pos (by simp [keyB])]
  cases hl : mlook l k with
  | none => rw [hl] at hq; simp only at hq; rw [hq]; simp [hz]
  | some v =>
    rw [hl] at hq
    obtain ⟨j, a, h1, h2⟩ := hq
    rw [h1]
    simp [h2]
theorem Step.mkMap {X : TypeId} (hlt : Nat.blt d nt = true) (hK : K (put t d (.map (some m.length))) (m ++ [some { cells := [], kind := .map }])) :
    Step P nt ops ⟨some d, .makeMap X none, T, p, af, none⟩ t m K := by
  have := loudN (P := P) (o := ⟨some d, .makeMap X none, T, p, af, none⟩) (ev := evD t) (K := fun v m' => K (put t d v) m') (v := .map (some (m.length + 0))) (M := m) (L := []) (L' := [some { cells := [], kind := .map }]) (k := 0) rfl rfl
    (by simp [aloud]) hK
  rw [List.append_nil] at this
  exact .l rfl rfl hlt rfl (by simp [Op.operands]) this
theorem Step.mapAdd {x y z : Operand} {X kt et a : Nat} {k : Int} {v : Value} {l : List (Int × Value)} (hx : evo t x = some (.map (some a))) (hy : evo t y = some (.int .i64 k)) (hz : evo t z = some v) (hb : m[a]? = some (some { cells := [], kind := .map, ents := mks l })) (hn : mlook l k = none)
    (hX : P.underlying X = some (.map kt et)) (hkt : P.underlying kt = some (.int .i64)) (hK : K t (m.set a (some { cells := [], kind := .map, ents := mks (l ++ [(k, v)]) }))) : Step P nt ops ⟨none, .mapUpdate X x y z, T, p, af, none⟩ t m K := by
  have hq := keyIn_mks (k := k) l 0
  rw [hn] at hq
  refine .l0 rfl rfl rfl (by simp [Op.operands, hx, hy, hz]) (loud_of_aloud0 (v := undef) (m' := m.set a (some { cells := [], kind := .map, ents := mks (l ++ [(k, v)]) })) rfl ?_ hK)
  simp only [aloud, evD_of hx, evD_of hy, evD_of hz, amapUpdate, hX, hkt, hb]
  rw [if_pos (by simp [keyB]), hq]
  simp [mks]
end
end Go.Proofs.YtedbjmgchfgabaaDoor.Abs
namespace Go.Proofs.YtedbjmgchfgabaaDoor.Abs
set_option linter.unusedSimpArgs false
set_option linter.unusedVariables false
open Go.RowKit
open Go.Proofs.YtedbjmgchfgabaaDoor.Sim
open Go.ChangeShapes Go.WideShapes Go.Deep
def plN (bs : List AR) : Pl := fun i => (bs[i]?).bind mkP
def mkV2 (i : Nat) : Value → Value
  | .slice (some ⟨_, _, some k⟩) _ _ => .slice (some ⟨i, 0, some k⟩) 0 0
  | .slice (some ⟨_, _, none⟩) n _ => .slice (some ⟨i, 0, none⟩) n n
  | v => v
def mkB2 : AR → Option Blk
  | (.slice (some _) _ (_ + 1), c) => some { cells := c, kind := .ro }
  | _ => none
/-- A slice of the input, with its cells as the abstract memory has them; or what is no block. -/
def OkB (W : World) (R : Pl) (a : AR) : Prop := g0 a.1 = true ∨ (∃ x, a.1 = .slice (some x) 0 0) ∨
  ∃ b o n cap, a.1 = .slice (some ⟨b, o, none⟩) n (cap + 1) ∧ n ≤ cap + 1 ∧ b < W.heap.size ∧ ∀ j x, a.2[j]? = some x → ∃ x', W.cell? ⟨b, o + j, none⟩ = some x' ∧ Rel R x x'
theorem relN {W : World} {R : Pl} {bs : List AR} {i : Nat} {a : AR} (hi : bs[i]? = some a) (h : OkB W R a) : Rel (plN bs) (mkV2 i a.1) a.1 := by
  obtain ⟨v, c⟩ := a
  rcases h with h1 | ⟨⟨b, o, sp⟩, h1⟩ | ⟨b, o, n, cap, h1, h2, h3, h4⟩
  · simp only at h1 ⊢
    cases v with
    | slice x n cap => cases x with
      | none => exact g0_rel h1
      | some x => simp [g0] at h1
    | _ => exact g0_rel h1
  · simp only at h1 ⊢
    subst h1
    cases sp with
    | none =>
      have := Rel.slice (R := plN bs) i 0 0 0 ⟨b, o, 0 - 0⟩ (by simp [plN, hi, mkP]) (Nat.le_refl _)
      simpa [mkV2] using this
    | some k =>
      have := Rel.sliceSpot (R := plN bs) i 0 k ⟨b, o, 0 - 0⟩ (by simp [plN, hi, mkP])
      simpa [mkV2] using this
  · simp only at h1 ⊢
    subst h1
    have := Rel.slice (R := plN bs) i 0 n n ⟨b, o, cap + 1 - n⟩ (by simp [plN, hi, mkP]) (Nat.le_refl _)
    rw [show n + (cap + 1 - n) = cap + 1 by omega] at this
    simpa [mkV2] using this
def mkVs2 : Nat → List AR → List Value
  | _, [] => []
  | i, a :: l => mkV2 i a.1 :: mkVs2 (i + 1) l
theorem mkVs2_get : ∀ (l : List AR) (i k : Nat), (mkVs2 i l)[k]? = (l[k]?).map fun a => mkV2 (i + k) a.1
  | [], i, k => by simp [mkVs2]
  | a :: l, i, 0 => by simp [mkVs2]
  | a :: l, i, k + 1 => by simp only [mkVs2, List.getElem?_cons_succ, mkVs2_get l (i + 1) k]; congr 1; funext x; congr 1; omega
theorem mkVs2_len : ∀ (l : List AR) (i : Nat), (mkVs2 i l).length = l.length
  | [], _ => rfl
  | a :: l, i => by simp [mkVs2, mkVs2_len l (i + 1)]
theorem mkB2_none {W : World} {R : Pl} {a : AR} {b : Blk} (h : OkB W R a) (hb : mkB2 a = some b) : ∃ bb o n cap, a.1 = .slice (some ⟨bb, o, none⟩) n (cap + 1) ∧ b = { cells := a.2, kind := .ro } ∧ bb < W.heap.size ∧ ∀ j x, a.2[j]? = some x → ∃ x', W.cell? ⟨bb, o + j, none⟩ = some x' ∧ Rel R x x' := by
  obtain ⟨v, c⟩ := a
  rcases h with h1 | ⟨x, h1⟩ | ⟨bb, o, n, cap, h1, h2, h3, h4⟩
  · simp only at h1
    cases v with
    | slice x n cap => cases x with
      | none => simp [mkB2] at hb
      | some x => simp [g0] at h1
    | _ => simp [mkB2] at hb
  · simp only at h1
    subst h1
    simp [mkB2] at hb
  · simp only at h1
    subst h1
    simp only [mkB2, Option.some.injEq] at hb
    exact ⟨bb, o, n, cap, rfl, hb.symm, h3, h4⟩
theorem top_callN {P : Program} {f : FuncId} {W : World} (bs : List AR) (na : Nat) (h : ∀ a ∈ bs, OkB W (plN bs) a) (hc : ACall P f ((mkVs2 0 bs).take na).toArray (bs.map mkB2) (Ret (.bool true) (bs.map mkB2))) :
    Calls P f ((bs.take na).map (·.1)).toArray W fun e w' => e = .returned (.bool true) ∧ Below W.heap.size W w' := by
  have hm : MRep W.heap.size (plN bs) (bs.map mkB2) W := by
    refine ⟨fun i hi => ?_, fun i b hi => ?_, fun i j b c p q hi hj hb _ _ _ _ => ?_⟩
    · simp only [List.length_map] at hi
      simp [plN, List.getElem?_eq_none hi]
    · rw [List.getElem?_map] at hi
      cases ha : bs[i]? with
      | none => rw [ha] at hi; cases hi
      | some a =>
        rw [ha] at hi
        simp only [Option.map_some, Option.some.injEq] at hi
        obtain ⟨bb, o, n, cap, h1, rfl, h3, h4⟩ := mkB2_none (h _ (List.mem_of_getElem? ha)) hi
        obtain ⟨v, c⟩ := a
        simp only at h1 h4
        subst h1
        refine ⟨⟨bb, o, cap + 1 - n⟩, by simp [plN, ha, mkP], h3, ?_⟩
        exact ⟨fun e => by simp at e, fun j x hj => h4 j x hj⟩
    · rw [List.getElem?_map] at hi
      cases ha : bs[i]? with
      | none => rw [ha] at hi; cases hi
      | some a =>
        rw [ha] at hi
        simp only [Option.map_some, Option.some.injEq] at hi
        obtain ⟨bb, o, n, cap, h1, rfl, _⟩ := mkB2_none (h _ (List.mem_of_getElem? ha)) hi
        cases hb
  have hargs : Rels (plN bs) ((mkVs2 0 bs).take na).toArray ((bs.take na).map (·.1)).toArray := by
    refine ⟨by simp [mkVs2_len], fun i hi => ?_⟩
    simp only [List.size_toArray, List.length_take, mkVs2_len] at hi
    have hib : i < bs.length := by omega
    have ha : bs[i]? = some bs[i] := List.getElem?_eq_getElem hib
    have e1 : ((mkVs2 0 bs).take na).toArray.getD i undef = mkV2 i bs[i].1 := by
      simp [mkVs2_get, ha, List.getElem?_take, show i < na by omega]
    have e2 : ((bs.take na).map (·.1)).toArray.getD i undef = bs[i].1 := by simp [List.getElem?_take, show i < na by omega, ha]
    rw [e1, e2]
    exact relN ha (h _ (List.mem_of_getElem? ha))
  refine (hc W.heap.size (plN bs) W _ (Nat.le_refl _) hm hargs).mono ?_
  rintro e w' ⟨v, v', R', m', rfl, k1, k2, rfl, rfl⟩
  cases k1
  exact ⟨rfl, k2.below hm (Nat.le_refl _)⟩
section
variable {H : Type} {enc : TypeId × Value → H} {P : Program} {w : World} {base : Nat} {held : Bool}
theorem cell_some {a : Addr} {v : Value} (h : w.cell? a = some v) : a.spot = none ∧ a.block < w.heap.size := by
  unfold World.cell? at h
  cases hb : w.heap[a.block]? with
  | none => rw [hb] at h; cases h
  | some o =>
    refine ⟨?_, (Array.getElem?_eq_some_iff.1 hb).1⟩
    rw [hb] at h
    cases o with
    | cells c ty fz =>
      simp only at h
      split at h
      · cases h
      · rename_i hs
        cases hsp : a.spot with
        | none => rfl
        | some k => rw [hsp] at hs; simp at hs
    | _ => cases h
/-- A slice of ints that the input shows, wherever it stands. -/
theorem ints_sl {T e : TypeId} {fuel : Nat} {v : Value} {d : DataW H × List MemPlace} (ht : P.underlying T = some (.slice e)) (he : P.underlying e = some (.int .i64)) (hce : P.cellsOf e = 1) (h : DataW.trod enc P w base (fun _ => true) held fuel T [v] = some d) :
    ∃ l : List Int, l.length ≤ maxLen ∧ (∀ R, OkB w R (v, iv l)) ∧ ∀ (bs : List AR) (i : Nat), bs[i]? = some (v, iv l) → Ints (bs.map mkB2) (mkV2 i v) l := by
  rcases open_ints ht he hce h with ⟨hcs, _⟩ | ⟨x, n, c, zs, hcs, _, hl, hm, hz, _, hcell, _⟩
  · obtain rfl : v = .slice none 0 0 := by simpa using hcs
    refine ⟨[], Nat.zero_le _, fun R => .inl rfl, fun bs i hi => ⟨i, 0, .inl ⟨rfl, rfl⟩, by simp; exact (List.getElem?_eq_some_iff.1 hi).1, fun k hk => by simp at hk⟩⟩
  · obtain rfl : v = .slice (some x) n c := by simpa using hcs
    rw [if_pos rfl] at hz
    have hlen : (zs.take n).length = n := by simp; omega
    cases c with
    | zero =>
      obtain rfl : n = 0 := by omega
      have e0 : zs.take 0 = [] := by simp
      refine ⟨[], Nat.zero_le _, fun R => .inr (.inl ⟨x, rfl⟩), fun bs i hi => ?_⟩
      have hlt : i < (bs.map mkB2).length := by simp; exact (List.getElem?_eq_some_iff.1 hi).1
      obtain ⟨b, o, sp⟩ := x
      cases sp with
      | none => exact ⟨i, 0, Sl.mk (Nat.le_refl _), hlt, fun k hk => by simp at hk⟩
      | some k => exact ⟨i, 0, .inr (.inr ⟨rfl, 0, k, rfl⟩), hlt, fun k hk => by simp at hk⟩
    | succ c =>
      obtain ⟨b, o, sp⟩ := x
      have h0 := cell_some (hcell 0 (by omega))
      obtain rfl : sp = none := h0.1
      have hb : b < w.heap.size := h0.2
      refine ⟨zs.take n, by omega, fun R => .inr (.inr ⟨b, o, n, c, rfl, hl, hb, fun j x hj => ?_⟩), fun bs i hi => ?_⟩
      · simp only [iv, List.getElem?_map] at hj
        by_cases hjn : j < n
        · rw [List.getElem?_take, if_pos hjn, List.getElem?_eq_getElem (by omega)] at hj
          simp only [Option.map_some, Option.some.injEq] at hj
          have := hcell j (by omega)
          rw [Addr.add_lit] at this
          refine ⟨_, this, ?_⟩
          rw [← hj]
          simp only [List.getD_eq_getElem?_getD, List.getElem?_eq_getElem (show j < zs.length by omega), Option.getD_some]
          exact .int _ _
        · rw [List.getElem?_take, if_neg hjn] at hj
          cases hj
      · have hM : (bs.map mkB2)[i]? = some (some { cells := iv (zs.take n), kind := .ro }) := by rw [List.getElem?_map, hi]; rfl
        exact ints_at hM rfl n hlen.symm
theorem arg_ints2 {T e : TypeId} {a : Option Addr} {n c : Nat} {d : DataW H} {p : List MemPlace} (ht : P.underlying T = some (.slice e)) (he : P.underlying e = some (.int .i64)) (hce : P.cellsOf e = 1) (h : DataW.Trod enc P w base (fun _ => true) held T (.slice a n c) d p) :
    ∃ l : List Int, l.length ≤ maxLen ∧ (∀ R, OkB w R (.slice a n c, iv l)) ∧ ∀ (bs : List AR) (i : Nat), bs[i]? = some (.slice a n c, iv l) → Ints (bs.map mkB2) (mkV2 i (.slice a n c)) l := by
  obtain ⟨fuel, h⟩ := h
  exact ints_sl ht he hce (by simpa [Value.cells] using h)
end
end Go.Proofs.YtedbjmgchfgabaaDoor.Abs
namespace Go.Proofs.YtedbjmgchfgabaaDoor.Abs
set_option linter.unusedSimpArgs false
set_option linter.unusedVariables false
open Go.RowKit
open Go.Proofs.YtedbjmgchfgabaaDoor.Sim
open Go.Proofs
theorem fit : Fit Tryd.prog := ⟨fun f fn h => by
  have key : (Tryd.prog.funcs.toList.all fun fn => !(fn.name == "runtime.NumGoroutine")) = true := by kernel_rfl
  have := List.all_eq_true.1 key fn (by simpa using Array.mem_of_getElem? h)
  simpa using this, by kernel_rfl⟩
theorem un4 : Tryd.prog.underlying 4 = some .bool := by kernel_rfl
theorem un9 : Tryd.prog.underlying 9 = some .string := by kernel_rfl
theorem ze23 : zeroB Tryd.prog 47 = some #[.int .i64 0, .int .i64 0, .int .i64 0, .int .i64 0] := by kernel_rfl
theorem take_snoc {α : Type} (l : List α) (k : Nat) (d : α) (h : k < l.length) : l.take (k + 1) = l.take k ++ [l.getD k d] := by
  rw [List.take_succ_eq_append_getElem h]; simp [h]
/-- A rectangle. -/
structure Rc where
  x : Int
  y : Int
  w : Int
  h : Int
deriving DecidableEq
instance : Inhabited Rc := ⟨⟨0, 0, 0, 0⟩⟩
def Rc.v (r : Rc) : Value := .agg #[.int .i64 r.x, .int .i64 r.y, .int .i64 r.w, .int .i64 r.h]
def Rc.cells (r : Rc) : List Value := [.int .i64 r.x, .int .i64 r.y, .int .i64 r.w, .int .i64 r.h]
/-- A rectangle of small numbers. -/
def rcN (x y a b : Nat) : Rc := ⟨x, y, a, b⟩
def sidesB (w h : Int) : Bool := decide (1 ≤ w ∧ 1 ≤ h ∧ w ≤ 16 ∧ h ≤ 16)
def t2 (w : Nat) : Nat := w * (w + 1)
theorem t2_le {w : Nat} (h : w ≤ 16) : t2 w ≤ 272 := by
  unfold t2
  have := Nat.mul_le_mul h (Nat.succ_le_succ h)
  simpa using this
def numY (w h : Nat) : Nat → Int
  | 0 => 0
  | k + 1 => numY w h k + (t2 w : Int) / 2 * ((h : Int) - (k : Nat))
def numX (w h y : Nat) : Nat → Int
  | 0 => numY w h y
  | k + 1 => numX w h y k + ((w : Int) - (k : Nat)) * ((h : Int) - (y : Nat))
def num (w h x y a b : Nat) : Int := numX w h y x + ((a : Int) - 1) * ((h : Int) - (y : Nat)) + b - 1
theorem mul_in {a b m n : Int} (h1 : 0 ≤ a) (h2 : a ≤ m) (h3 : 0 ≤ b) (h4 : b ≤ n) : 0 ≤ a * b ∧ a * b ≤ m * n :=
  ⟨Int.mul_nonneg h1 h3, Int.mul_le_mul h2 h4 h3 (by omega)⟩
theorem numY_in {w h : Nat} (hw : w ≤ 16) (hh : h ≤ 16) : ∀ k, k ≤ h → 0 ≤ numY w h k ∧ numY w h k ≤ 2176 * (k : Nat)
  | 0, _ => by simp [numY]
  | k + 1, hk => by
    have ih := numY_in hw hh k (by omega)
    have ht := t2_le hw
    have := mul_in (a := (t2 w : Int) / 2) (b := (h : Int) - (k : Nat)) (m := 136) (n := 16) (by omega) (by omega) (by omega) (by omega)
    simp only [numY]
    omega
theorem numX_in {w h y : Nat} (hw : w ≤ 16) (hh : h ≤ 16) (hy : y ≤ h) : ∀ k, k ≤ w → 0 ≤ numX w h y k ∧ numX w h y k ≤ 34816 + 256 * (k : Nat)
  | 0, _ => by
    have := numY_in hw hh y hy
    simp only [numX]
    omega
  | k + 1, hk => by
    have ih := numX_in hw hh hy k (by omega)
    have := mul_in (a := (w : Int) - (k : Nat)) (b := (h : Int) - (y : Nat)) (m := 16) (n := 16) (by omega) (by omega) (by omega) (by omega)
    simp only [numX]
    omega
set_option maxRecDepth 100000 in
theorem sides_ok {m : AM} (w h : Int) : ACall Tryd.prog 62 #[.int .i64 w, .int .i64 h] m (Ret (.bool (sidesB w h)) m) := by
  refine ACall.start Tryd.func62 rfl rfl ?_
  have hs : sidesB w h = decide (1 ≤ min w h ∧ max w h ≤ 16) := by
    unfold sidesB
    rw [decide_eq_decide]
    constructor <;> intro h <;> omega
  rw [hs]
  by_cases h1 : 1 ≤ min w h
  · by_cases h2 : max w h ≤ 16
    · (repeat (first | (with_reducible refine AWo.cons ?_) | ((with_reducible refine Step.id ?_); first | ((with_reducible apply Step.gdT); exact rfl; exact rfl; (focus ((simp only [decide_eq_true_eq, decide_eq_false_iff_not, Bool.not_eq_true', Bool.not_eq_false', Bool.not_true, Bool.not_false]; first | assumption | omega)))) | ((with_reducible apply Step.move); exact rfl; exact rfl) | ((with_reducible apply Step.assign); exact rfl; exact rfl) | ((with_reducible apply Step.leq); exact rfl; exact rfl; exact rfl) | ((with_reducible apply Step.geq); exact rfl; exact rfl; exact rfl) | ((with_reducible apply Step.max); exact rfl; exact rfl; exact rfl) | ((with_reducible apply Step.min); exact rfl; exact rfl; exact rfl) | ((with_reducible apply Step.pickT); exact rfl; exact rfl; exact rfl; exact rfl; (focus ((simp only [decide_eq_true_eq, decide_eq_false_iff_not, Bool.not_eq_true', Bool.not_eq_false', Bool.not_true, Bool.not_false]; first | assumption | omega))))) | (with_reducible refine AWo.nil ?_) | ((with_reducible apply AW.seq)) | ((with_reducible apply Then.n)) | ((with_reducible apply AW.regL))))
      (refine AW.retD (l := [(4, _)]) (by repeat (first | exact trivial | (refine And.intro ⟨rfl, by (exact .bool _)⟩ ?_))) ?_; (repeat (first | refine Then.r ?_ | refine InBlk.r ?_)))
      exact ⟨_, rfl, by simp only [h1, h2]; rfl, rfl⟩
    · (repeat (first | (with_reducible refine AWo.cons ?_) | ((with_reducible refine Step.id ?_); first | ((with_reducible apply Step.gdT); exact rfl; exact rfl; (focus ((simp only [decide_eq_true_eq, decide_eq_false_iff_not, Bool.not_eq_true', Bool.not_eq_false', Bool.not_true, Bool.not_false]; first | assumption | omega)))) | ((with_reducible apply Step.move); exact rfl; exact rfl) | ((with_reducible apply Step.assign); exact rfl; exact rfl) | ((with_reducible apply Step.leq); exact rfl; exact rfl; exact rfl) | ((with_reducible apply Step.geq); exact rfl; exact rfl; exact rfl) | ((with_reducible apply Step.max); exact rfl; exact rfl; exact rfl) | ((with_reducible apply Step.min); exact rfl; exact rfl; exact rfl) | ((with_reducible apply Step.pickT); exact rfl; exact rfl; exact rfl; exact rfl; (focus ((simp only [decide_eq_true_eq, decide_eq_false_iff_not, Bool.not_eq_true', Bool.not_eq_false', Bool.not_true, Bool.not_false]; first | assumption | omega))))) | (with_reducible refine AWo.nil ?_) | ((with_reducible apply AW.seq)) | ((with_reducible apply Then.n)) | ((with_reducible apply AW.regL))))
      (refine AW.retD (l := [(4, _)]) (by repeat (first | exact trivial | (refine And.intro ⟨rfl, by (exact .bool _)⟩ ?_))) ?_; (repeat (first | refine Then.r ?_ | refine InBlk.r ?_)))
      exact ⟨_, rfl, by simp only [h1, h2]; rfl, rfl⟩
  · (repeat (first | (with_reducible refine AWo.cons ?_) | ((with_reducible refine Step.id ?_); first | ((with_reducible apply Step.gdF); exact rfl; exact rfl; (focus ((simp only [decide_eq_true_eq, decide_eq_false_iff_not, Bool.not_eq_true', Bool.not_eq_false', Bool.not_true, Bool.not_false]; first | assumption | omega)))) | ((with_reducible apply Step.move); exact rfl; exact rfl) | ((with_reducible apply Step.assign); exact rfl; exact rfl) | ((with_reducible apply Step.geq); exact rfl; exact rfl; exact rfl) | ((with_reducible apply Step.min); exact rfl; exact rfl; exact rfl) | ((with_reducible apply Step.pickF); exact rfl; exact rfl; exact rfl; exact rfl; (focus ((simp only [decide_eq_true_eq, decide_eq_false_iff_not, Bool.not_eq_true', Bool.not_eq_false', Bool.not_true, Bool.not_false]; first | assumption | omega))))) | (with_reducible refine AWo.nil ?_) | ((with_reducible apply AW.seq)) | ((with_reducible apply Then.n)) | ((with_reducible apply AW.regL))))
    (refine AW.retD (l := [(4, _)]) (by repeat (first | exact trivial | (refine And.intro ⟨rfl, by (exact .bool _)⟩ ?_))) ?_; (repeat (first | refine Then.r ?_ | refine InBlk.r ?_)))
    exact ⟨_, rfl, by simp only [h1]; simp, rfl⟩
set_option maxHeartbeats 1000000 in
set_option maxRecDepth 100000 in
theorem number_ok {m : AM} {w h x y a b : Nat} (hw : w ≤ 16) (hh : h ≤ 16) (ha : 1 ≤ a) (hx : x + a ≤ w) (hb : 1 ≤ b) (hy : y + b ≤ h) :
    ACall Tryd.prog 36 #[.int .i64 (w : Nat), .int .i64 (h : Nat), (rcN x y a b).v] m (Ret (.int .i64 (num w h x y a b)) m) := by
  have e1 : (w : Int) * ((w : Int) + 1) = ((t2 w : Nat) : Int) := by simp [t2]
  have ht := t2_le hw
  refine ACall.start Tryd.func36 rfl rfl ?_
  (repeat (first | (with_reducible refine AWo.cons ?_) | ((with_reducible refine Step.id ?_); first | ((with_reducible apply Step.move); exact rfl; exact rfl) | ((with_reducible apply Step.assign); exact rfl; exact rfl) | ((with_reducible apply Step.load); exact rfl; (focus (decide +kernel)); exact rfl; (focus (exact Rd.new rfl rfl))) | ((with_reducible apply Step.field (k := 1)); exact rfl; (focus (decide +kernel)); exact rfl) | ((with_reducible apply Step.box 0); exact rfl; exact rfl; (focus (kernel_rfl)); exact rfl; (focus (first | (simp only [List.nil_append, List.cons_append, List.set_cons_zero, List.set_cons_succ, iv_set, bv_set, iv_rep, bv_rep]; done) | (simp only [List.nil_append, List.cons_append, List.set_cons_zero, List.set_cons_succ, iv_set, bv_set, iv_rep, bv_rep]; rfl) | rfl)))) | (with_reducible refine AWo.nil ?_) | ((with_reducible apply AW.seq)) | ((with_reducible apply Then.n)) | ((with_reducible apply AW.regL)) | ((with_reducible apply AW.block))))
  refine AW.loopT (fun n t L => ∃ k : Nat, n = y - k ∧ k ≤ y ∧ L = [some { cells := [.int .i64 (x : Nat), .int .i64 (y : Nat), .int .i64 (a : Nat), .int .i64 (b : Nat)] }] ∧
    t = [(0, .int .i64 (w : Nat)), (1, .int .i64 (h : Nat)), (5, .pointer (some ⟨m.length + 0, 0, none⟩)), (7, .int .i64 (numY w h k)), (11, .int .i64 (y : Nat)), (12, .int .i64 (k : Nat))])
    ⟨_, _, _, (Or.inl ⟨rfl, (by repeat (first | exact trivial | (refine And.intro rfl ?_)))⟩), 0, rfl, Nat.zero_le _, rfl, rfl⟩ ?_
  rintro n t L ⟨k, rfl, hk, rfl, rfl⟩
  rcases Nat.lt_or_ge k y with hlt | hge
  · have b1 := numY_in hw hh k (by omega)
    have b2 := mul_in (a := (t2 w : Int) / 2) (b := (h : Int) - (k : Nat)) (m := 136) (n := 16) (by omega) (by omega) (by omega) (by omega)
    (repeat (first | (with_reducible refine AWo.cons ?_) | ((with_reducible refine Step.id ?_); first | ((with_reducible apply Step.move); exact rfl; exact rfl) | ((with_reducible apply Step.assign); exact rfl; exact rfl) | ((with_reducible apply Step.mulE); exact rfl; exact rfl; (focus (assumption)); (focus (omega)); exact rfl) | ((with_reducible apply Step.add); exact rfl; exact rfl; (focus (omega)); exact rfl) | ((with_reducible apply Step.sub); exact rfl; exact rfl; (focus (omega)); exact rfl) | ((with_reducible apply Step.mul); exact rfl; exact rfl; (focus (omega)); exact rfl) | ((with_reducible apply Step.lss); exact rfl; exact rfl; exact rfl) | ((with_reducible apply Step.quo); exact rfl; exact rfl; (focus (omega)); (focus (omega)); exact rfl)) | (with_reducible refine AWo.nil ?_) | ((with_reducible apply AW.seq)) | ((with_reducible apply Then.n)) | ((with_reducible apply AW.regL)) | ((with_reducible apply AW.block)) | ((with_reducible apply InBlk.n)) | ((with_reducible apply AW.skip)) | ((with_reducible apply AW.condT); exact rfl; (focus ((simp only [decide_eq_true_eq, decide_eq_false_iff_not, Bool.not_eq_true', Bool.not_eq_false', Bool.not_true, Bool.not_false]; first | assumption | omega))))))
    exact ⟨_, [(0, .int .i64 (w : Nat)), (1, .int .i64 (h : Nat)), (5, .pointer (some ⟨m.length + 0, 0, none⟩)), (7, .int .i64 (numY w h (k + 1))), (11, .int .i64 (y : Nat)), (12, .int .i64 (k + 1 : Nat))], _, by omega, (Or.inl ⟨rfl, (by repeat (first | exact trivial | (refine And.intro rfl ?_)))⟩), k + 1, rfl, by omega, rfl, rfl⟩
  · obtain rfl : k = y := by omega
    (repeat (first | (with_reducible refine AWo.cons ?_) | ((with_reducible refine Step.id ?_); first | ((with_reducible apply Step.move); exact rfl; exact rfl) | ((with_reducible apply Step.load); exact rfl; (focus (decide +kernel)); exact rfl; (focus (exact Rd.new rfl rfl))) | ((with_reducible apply Step.field0); exact rfl; (focus (decide +kernel)); exact rfl) | ((with_reducible apply Step.lss); exact rfl; exact rfl; exact rfl)) | (with_reducible refine AWo.nil ?_) | ((with_reducible apply AW.seq)) | ((with_reducible apply Then.n)) | ((with_reducible apply AW.regL)) | ((with_reducible apply AW.block)) | ((with_reducible apply AW.exit)) | ((with_reducible apply InBlk.hit)) | ((with_reducible apply Then.e)) | ((with_reducible apply AW.condF); exact rfl; (focus ((simp only [decide_eq_true_eq, decide_eq_false_iff_not, Bool.not_eq_true', Bool.not_eq_false', Bool.not_true, Bool.not_false]; first | assumption | omega))))))
    refine AW.loopT (fun n t L => ∃ i : Nat, n = x - i ∧ i ≤ x ∧ L = [some { cells := [.int .i64 (x : Nat), .int .i64 (k : Nat), .int .i64 (a : Nat), .int .i64 (b : Nat)] }] ∧
      t = [(0, .int .i64 (w : Nat)), (1, .int .i64 (h : Nat)), (5, .pointer (some ⟨m.length + 0, 0, none⟩)), (7, .int .i64 (numX w h k i)), (28, .int .i64 (x : Nat)), (29, .int .i64 (i : Nat))])
      ⟨_, _, _, (Or.inl ⟨rfl, (by repeat (first | exact trivial | (refine And.intro rfl ?_)))⟩), 0, rfl, Nat.zero_le _, rfl, rfl⟩ ?_
    rintro n t L ⟨i, rfl, hi, rfl, rfl⟩
    rcases Nat.lt_or_ge i x with hlt | hge
    · have b1 := numX_in hw hh (y := k) (by omega) i (by omega)
      have b2 := mul_in (a := (w : Int) - (i : Nat)) (b := (h : Int) - (k : Nat)) (m := 16) (n := 16) (by omega) (by omega) (by omega) (by omega)
      (repeat (first | (with_reducible refine AWo.cons ?_) | ((with_reducible refine Step.id ?_); first | ((with_reducible apply Step.move); exact rfl; exact rfl) | ((with_reducible apply Step.assign); exact rfl; exact rfl) | ((with_reducible apply Step.load); exact rfl; (focus (decide +kernel)); exact rfl; (focus (exact Rd.new rfl rfl))) | ((with_reducible apply Step.field (k := 1)); exact rfl; (focus (decide +kernel)); exact rfl) | ((with_reducible apply Step.add); exact rfl; exact rfl; (focus (omega)); exact rfl) | ((with_reducible apply Step.sub); exact rfl; exact rfl; (focus (omega)); exact rfl) | ((with_reducible apply Step.mul); exact rfl; exact rfl; (focus (omega)); exact rfl) | ((with_reducible apply Step.lss); exact rfl; exact rfl; exact rfl)) | (with_reducible refine AWo.nil ?_) | ((with_reducible apply AW.seq)) | ((with_reducible apply Then.n)) | ((with_reducible apply AW.regL)) | ((with_reducible apply AW.block)) | ((with_reducible apply InBlk.n)) | ((with_reducible apply AW.skip)) | ((with_reducible apply AW.condT); exact rfl; (focus ((simp only [decide_eq_true_eq, decide_eq_false_iff_not, Bool.not_eq_true', Bool.not_eq_false', Bool.not_true, Bool.not_false]; first | assumption | omega))))))
      exact ⟨_, [(0, .int .i64 (w : Nat)), (1, .int .i64 (h : Nat)), (5, .pointer (some ⟨m.length + 0, 0, none⟩)), (7, .int .i64 (numX w h k (i + 1))), (28, .int .i64 (x : Nat)), (29, .int .i64 (i + 1 : Nat))], _, by omega, (Or.inl ⟨rfl, (by repeat (first | exact trivial | (refine And.intro rfl ?_)))⟩), i + 1, rfl, by omega, rfl, rfl⟩
    · obtain rfl : i = x := by omega
      have b1 := numX_in hw hh (y := k) (by omega) i (by omega)
      have b2 := mul_in (a := (a : Int) - 1) (b := (h : Int) - (k : Nat)) (m := 16) (n := 16) (by omega) (by omega) (by omega) (by omega)
      (repeat (first | (with_reducible refine AWo.cons ?_) | ((with_reducible refine Step.id ?_); first | ((with_reducible apply Step.move); exact rfl; exact rfl) | ((with_reducible apply Step.assign); exact rfl; exact rfl) | ((with_reducible apply Step.load); exact rfl; (focus (decide +kernel)); exact rfl; (focus (exact Rd.new rfl rfl))) | ((with_reducible apply Step.field (k := 1)); exact rfl; (focus (decide +kernel)); exact rfl) | ((with_reducible apply Step.field (k := 2)); exact rfl; (focus (decide +kernel)); exact rfl) | ((with_reducible apply Step.field (k := 3)); exact rfl; (focus (decide +kernel)); exact rfl) | ((with_reducible apply Step.add); exact rfl; exact rfl; (focus (omega)); exact rfl) | ((with_reducible apply Step.sub); exact rfl; exact rfl; (focus (omega)); exact rfl) | ((with_reducible apply Step.mul); exact rfl; exact rfl; (focus (omega)); exact rfl) | ((with_reducible apply Step.lss); exact rfl; exact rfl; exact rfl)) | (with_reducible refine AWo.nil ?_) | ((with_reducible apply AW.seq)) | ((with_reducible apply Then.n)) | ((with_reducible apply AW.regL)) | ((with_reducible apply AW.exit)) | ((with_reducible apply InBlk.hit)) | ((with_reducible apply Then.e)) | ((with_reducible apply AW.condF); exact rfl; (focus ((simp only [decide_eq_true_eq, decide_eq_false_iff_not, Bool.not_eq_true', Bool.not_eq_false', Bool.not_true, Bool.not_false]; first | assumption | omega))))))
      (refine AW.retD (l := [(6, _)]) (by repeat (first | exact trivial | (refine And.intro ⟨rfl, by (exact .int _ _)⟩ ?_))) ?_; (repeat (first | refine Then.r ?_ | refine InBlk.r ?_)))
      exact ⟨_, rfl, rfl, rfl⟩
end Go.Proofs.YtedbjmgchfgabaaDoor.Abs
namespace Go.Proofs.YtedbjmgchfgabaaDoor.Abs
set_option linter.unusedSimpArgs false
set_option linter.unusedVariables false
/-- What the columns from the first k on can begin: k of n, each with what is left. -/
def tri (n : Nat) : Nat → Int
  | 0 => 0
  | k + 1 => tri n k + ((n : Int) - (k : Nat))
theorem tri_full {n : Nat} (h : n ≤ 16) : tri n n = (t2 n : Int) / 2 := by
  have : ∀ n : Fin 17, tri n n = (t2 n : Int) / 2 := by decide
  exact this ⟨n, by omega⟩
theorem numY_tri (w h : Nat) : ∀ k, numY w h k = (t2 w : Int) / 2 * tri h k
  | 0 => by simp [numY, tri]
  | k + 1 => by rw [numY, tri, numY_tri w h k, Int.mul_add]
theorem numX_tri (w h y : Nat) : ∀ k, numX w h y k = numY w h y + tri w k * ((h : Int) - (y : Nat))
  | 0 => by simp [numX, tri]
  | k + 1 => by rw [numX, tri, numX_tri w h y k, Int.add_mul]; omega
/-- A rectangle of a board of w columns and h rows. -/
structure R4 where
  x : Nat
  y : Nat
  a : Nat
  b : Nat
deriving DecidableEq
instance : Inhabited R4 := ⟨⟨0, 0, 0, 0⟩⟩
def R4.ok (w h : Nat) (r : R4) : Prop := 1 ≤ r.a ∧ 1 ≤ r.b ∧ r.x + r.a ≤ w ∧ r.y + r.b ≤ h
def R4.num (w h : Nat) (r : R4) : Int := Abs.num w h r.x r.y r.a r.b
def allB (x y a n : Nat) : List R4 := (List.range n).map fun m => ⟨x, y, a, m + 1⟩
def allA (h x y n : Nat) : List R4 := (List.range n).flatMap fun k => allB x y (k + 1) (h - y)
def allX (w h y n : Nat) : List R4 := (List.range n).flatMap fun x => allA h x y (w - x)
def allR (w h n : Nat) : List R4 := (List.range n).flatMap fun y => allX w h y w
theorem allB_succ (x y a n : Nat) : allB x y a (n + 1) = allB x y a n ++ [⟨x, y, a, n + 1⟩] := by simp [allB, List.range_succ]
theorem allA_succ (h x y n : Nat) : allA h x y (n + 1) = allA h x y n ++ allB x y (n + 1) (h - y) := by simp [allA, List.range_succ]
theorem allX_succ (w h y n : Nat) : allX w h y (n + 1) = allX w h y n ++ allA h n y (w - n) := by simp [allX, List.range_succ]
theorem allR_succ (w h n : Nat) : allR w h (n + 1) = allR w h n ++ allX w h n w := by simp [allR, List.range_succ]
theorem allB_len (x y a : Nat) (n : Nat) : ((allB x y a n).length : Int) = n := by simp [allB]
theorem allA_len {h y : Nat} (hy : y ≤ h) (x : Nat) : ∀ n, ((allA h x y n).length : Int) = (n : Int) * ((h : Int) - (y : Nat))
  | 0 => by simp [allA]
  | n + 1 => by
    rw [allA_succ, List.length_append, Int.natCast_add, allA_len hy x n, allB_len, Int.natCast_add, Int.add_mul]
    omega
theorem allX_len {w h y : Nat} (hy : y ≤ h) : ∀ n, n ≤ w → ((allX w h y n).length : Int) = tri w n * ((h : Int) - (y : Nat))
  | 0, _ => by simp [allX, tri]
  | n + 1, hn => by
    rw [allX_succ, List.length_append, Int.natCast_add, allX_len hy n (by omega), allA_len hy, tri, Int.add_mul]
    rw [show ((w - n : Nat) : Int) = (w : Int) - (n : Nat) by omega]
theorem allR_len {w h : Nat} (hw : w ≤ 16) : ∀ n, n ≤ h → ((allR w h n).length : Int) = numY w h n
  | 0, _ => by simp [allR, numY]
  | n + 1, hn => by
    rw [allR_succ, List.length_append, Int.natCast_add, allR_len hw n (by omega), allX_len (by omega) w (Nat.le_refl _), tri_full hw, numY]
def Idx (w h : Nat) (s : Int) (l : List R4) : Prop := ∀ i r, l[i]? = some r → r.num w h = s + (i : Nat) ∧ r.ok w h
theorem Idx.nil {w h : Nat} {s : Int} : Idx w h s [] := fun i r hi => by simp at hi
theorem Idx.append {w h : Nat} {s : Int} {l l' : List R4} (h1 : Idx w h s l) (h2 : Idx w h (s + (l.length : Nat)) l') : Idx w h s (l ++ l') := by
  intro i r hi
  rcases Nat.lt_or_ge i l.length with hl | hl
  · rw [List.getElem?_append_left hl] at hi; exact h1 i r hi
  · rw [List.getElem?_append_right hl] at hi
    obtain ⟨e, g⟩ := h2 _ r hi
    exact ⟨by omega, g⟩
theorem allB_idx {w h x y a : Nat} (ha : 1 ≤ a) (hx : x + a ≤ w) : ∀ n, y + n ≤ h → Idx w h (numX w h y x + ((a : Int) - 1) * ((h : Int) - (y : Nat))) (allB x y a n)
  | 0, _ => Idx.nil
  | n + 1, hn => by
    rw [allB_succ]
    refine (allB_idx ha hx n (by omega)).append ?_
    intro i r hi
    cases i with
    | zero =>
      simp only [List.getElem?_cons_zero, Option.some.injEq] at hi
      subst hi
      refine ⟨?_, ha, Nat.le_add_left 1 n, hx, hn⟩
      rw [allB_len]
      simp only [R4.num, Abs.num]
      omega
    | succ i => simp at hi
theorem allA_idx {w h x y : Nat} (hy : y ≤ h) : ∀ n, x + n ≤ w → Idx w h (numX w h y x) (allA h x y n)
  | 0, _ => Idx.nil
  | n + 1, hn => by
    rw [allA_succ]
    refine (allA_idx hy n (by omega)).append ?_
    rw [allA_len hy]
    have := allB_idx (w := w) (h := h) (x := x) (y := y) (a := n + 1) (by omega) (by omega) (h - y) (by omega)
    rw [show ((n + 1 : Nat) : Int) - 1 = (n : Int) by omega] at this
    exact this
theorem allX_idx {w h y : Nat} (hy : y ≤ h) : ∀ n, n ≤ w → Idx w h (numY w h y) (allX w h y n)
  | 0, _ => Idx.nil
  | n + 1, hn => by
    rw [allX_succ]
    refine (allX_idx hy n (by omega)).append ?_
    rw [allX_len hy n (by omega), ← numX_tri]
    exact allA_idx hy (w - n) (by omega)
theorem allR_idx {w h : Nat} (hw : w ≤ 16) : ∀ n, n ≤ h → Idx w h 0 (allR w h n)
  | 0, _ => Idx.nil
  | n + 1, hn => by
    rw [allR_succ]
    refine (allR_idx hw n (by omega)).append ?_
    rw [allR_len hw n (by omega), Int.zero_add]
    exact allX_idx (by omega) w (Nat.le_refl _)
theorem mem_all {w h : Nat} {r : R4} : r ∈ allR w h h ↔ r.ok w h := by
  obtain ⟨x, y, a, b⟩ := r
  simp only [allR, allX, allA, allB, List.mem_flatMap, List.mem_range, List.mem_map, R4.mk.injEq, R4.ok]
  constructor
  · rintro ⟨y', h1, x', h2, k, h3, m, h4, rfl, rfl, rfl, rfl⟩
    omega
  · intro hh
    exact ⟨y, by omega, x, by omega, a - 1, by omega, b - 1, by omega, rfl, rfl, by omega, by omega⟩
theorem allR_total {w h : Nat} (hw : w ≤ 16) (hh : h ≤ 16) : ((allR w h h).length : Int) = (t2 w : Int) / 2 * ((t2 h : Int) / 2) := by
  rw [allR_len hw h (Nat.le_refl _), numY_tri, tri_full hh]
def total (w h : Nat) : Nat := t2 w / 2 * (t2 h / 2)
theorem total_len {w h : Nat} (hw : w ≤ 16) (hh : h ≤ 16) : (allR w h h).length = total w h := by
  have := allR_total hw hh
  unfold total
  rw [show ((t2 w : Nat) : Int) / 2 = ((t2 w / 2 : Nat) : Int) by omega, show ((t2 h : Nat) : Int) / 2 = ((t2 h / 2 : Nat) : Int) by omega, ← Int.natCast_mul] at this
  exact Int.ofNat.inj this
theorem total_le {w h : Nat} (hw : w ≤ 16) (hh : h ≤ 16) : total w h ≤ 18496 := by
  have h1 := t2_le hw
  have h2 := t2_le hh
  unfold total
  have := Nat.mul_le_mul (show t2 w / 2 ≤ 136 by omega) (show t2 h / 2 ≤ 136 by omega)
  omega
/-- A rectangle's number, as a place in a table. -/
def R4.at (w h : Nat) (r : R4) : Nat := (r.num w h).toNat
section
variable {w h : Nat} {r r' : R4}
theorem num_get (hw : w ≤ 16) (hr : r.ok w h) : ∃ i, (allR w h h)[i]? = some r ∧ r.num w h = (i : Nat) := by
  obtain ⟨i, hi⟩ := List.mem_iff_getElem?.1 (mem_all.2 hr)
  have := allR_idx hw h (Nat.le_refl _) i r hi
  exact ⟨i, hi, by omega⟩
theorem num_at (hw : w ≤ 16) (hr : r.ok w h) : r.num w h = (r.at w h : Nat) := by
  obtain ⟨i, _, h2⟩ := num_get hw hr
  unfold R4.at
  omega
theorem at_lt (hw : w ≤ 16) (hh : h ≤ 16) (hr : r.ok w h) : r.at w h < total w h := by
  obtain ⟨i, h1, h2⟩ := num_get hw hr
  have := (List.getElem?_eq_some_iff.1 h1).1
  rw [total_len hw hh] at this
  unfold R4.at
  omega
theorem at_inj (hw : w ≤ 16) (hr : r.ok w h) (hr' : r'.ok w h) (e : r.at w h = r'.at w h) : r = r' := by
  obtain ⟨i, h1, h2⟩ := num_get hw hr
  obtain ⟨j, h3, h4⟩ := num_get hw hr'
  have : i = j := by unfold R4.at at e; omega
  subst this
  rw [h1] at h3
  exact Option.some.inj h3
end
end Go.Proofs.YtedbjmgchfgabaaDoor.Abs
namespace Go.Proofs.YtedbjmgchfgabaaDoor.Abs
set_option linter.unusedSimpArgs false
set_option linter.unusedVariables false
/-- The greatest of 0 and f 1, .., f k. -/
def mxc (f : Nat → Int) : Nat → Int
  | 0 => 0
  | k + 1 => max (mxc f k) (f (k + 1))
theorem mxc_congr {f g : Nat → Int} : ∀ k, (∀ i, 1 ≤ i → i ≤ k → f i = g i) → mxc f k = mxc g k
  | 0, _ => rfl
  | k + 1, h => by rw [mxc, mxc, mxc_congr k fun i h1 h2 => h i h1 (by omega), h (k + 1) (by omega) (Nat.le_refl _)]
theorem mxc_le {f : Nat → Int} {c : Int} (hc : 0 ≤ c) : ∀ k, (∀ i, 1 ≤ i → i ≤ k → f i ≤ c) → mxc f k ≤ c
  | 0, _ => hc
  | k + 1, h => by
    have := mxc_le hc k fun i h1 h2 => h i h1 (by omega)
    have := h (k + 1) (by omega) (Nat.le_refl _)
    simp only [mxc]; omega
theorem mxc_wit {f : Nat → Int} : ∀ k, mxc f k = 0 ∨ ∃ i, 1 ≤ i ∧ i ≤ k ∧ mxc f k = f i
  | 0 => .inl rfl
  | k + 1 => by
    simp only [mxc]
    rcases Int.le_total (mxc f k) (f (k + 1)) with h | h
    · exact .inr ⟨k + 1, by omega, Nat.le_refl _, by omega⟩
    · rcases mxc_wit (f := f) k with h1 | ⟨i, h1, h2, h3⟩
      · exact .inl (by omega)
      · exact .inr ⟨i, h1, by omega, by omega⟩
/-- The parts of a rectangle that is cut: across (op 2) or along. -/
def R4.lo (r : R4) (d : Bool) (i : Nat) : R4 := if d then ⟨r.x, r.y, i, r.b⟩ else ⟨r.x, r.y, r.a, i⟩
def R4.hi (r : R4) (d : Bool) (i : Nat) : R4 := if d then ⟨r.x + i, r.y, r.a - i, r.b⟩ else ⟨r.x, r.y + i, r.a, r.b - i⟩
def R4.len (r : R4) (d : Bool) : Nat := if d then r.a else r.b
theorem lo_ok {w h : Nat} {r : R4} {d : Bool} {i : Nat} (hr : r.ok w h) (h1 : 1 ≤ i) (h2 : i + 1 ≤ r.len d) : (r.lo d i).ok w h := by
  unfold R4.ok R4.lo R4.len at *
  cases d <;> simp at * <;> omega
theorem hi_ok {w h : Nat} {r : R4} {d : Bool} {i : Nat} (hr : r.ok w h) (h1 : 1 ≤ i) (h2 : i + 1 ≤ r.len d) : (r.hi d i).ok w h := by
  unfold R4.ok R4.hi R4.len at *
  cases d <;> simp at * <;> omega
theorem len_pos {w h : Nat} {r : R4} (d : Bool) (hr : r.ok w h) : 1 ≤ r.len d := by
  unfold R4.ok R4.len at *
  cases d <;> simp <;> omega
theorem len_le {w h : Nat} {r : R4} (d : Bool) (hw : w ≤ 16) (hh : h ≤ 16) (hr : r.ok w h) : r.len d ≤ 16 := by
  unfold R4.ok R4.len at *
  cases d <;> simp <;> omega
def R4.size (r : R4) : Nat := r.a + r.b
theorem lo_size {w h : Nat} {r : R4} {d : Bool} {i : Nat} (hr : r.ok w h) (h1 : 1 ≤ i) (h2 : i + 1 ≤ r.len d) : (r.lo d i).size + 1 ≤ r.size := by
  unfold R4.ok R4.lo R4.len R4.size at *
  cases d <;> simp at * <;> omega
theorem hi_size {w h : Nat} {r : R4} {d : Bool} {i : Nat} (hr : r.ok w h) (h1 : 1 ≤ i) (h2 : i + 1 ≤ r.len d) : (r.hi d i).size + 1 ≤ r.size := by
  unfold R4.ok R4.hi R4.len R4.size at *
  cases d <;> simp at * <;> omega
/-- The greatest sum of both parts. -/
def cutM (v : R4 → Int) (r : R4) (d : Bool) : Int := mxc (fun i => v (r.lo d i) + v (r.hi d i)) (r.len d - 1)
def VV (leaf : R4 → Int) : Nat → R4 → Int
  | 0, _ => 0
  | f + 1, r => max (max (leaf r) (cutM (VV leaf f) r true)) (cutM (VV leaf f) r false)
def V (leaf : R4 → Int) (r : R4) : Int := VV leaf r.size r
section
variable {leaf : R4 → Int} {w h : Nat}
theorem cutM_congr {v v' : R4 → Int} {r : R4} {d : Bool} (hr : r.ok w h) (e : ∀ r' : R4, r'.ok w h → r'.size + 1 ≤ r.size → v r' = v' r') : cutM v r d = cutM v' r d := by
  unfold cutM
  refine mxc_congr _ fun i h1 h2 => ?_
  have h3 : i + 1 ≤ r.len d := by omega
  rw [e _ (lo_ok hr h1 h3) (lo_size hr h1 h3), e _ (hi_ok hr h1 h3) (hi_size hr h1 h3)]
theorem VV_fuel : ∀ (f g : Nat) (r : R4), r.ok w h → r.size ≤ f → r.size ≤ g → VV leaf f r = VV leaf g r
  | 0, _, r, hr, hf, _ => by unfold R4.ok R4.size at *; omega
  | _ + 1, 0, r, hr, _, hg => by unfold R4.ok R4.size at *; omega
  | f + 1, g + 1, r, hr, hf, hg => by
    simp only [VV]
    rw [cutM_congr (d := true) hr fun r' h1 h2 => VV_fuel f g r' h1 (by omega) (by omega), cutM_congr (d := false) hr fun r' h1 h2 => VV_fuel f g r' h1 (by omega) (by omega)]
theorem V_eq {r : R4} (hr : r.ok w h) : V leaf r = max (max (leaf r) (cutM (V leaf) r true)) (cutM (V leaf) r false) := by
  obtain ⟨n, hn⟩ : ∃ n, r.size = n + 1 := ⟨r.size - 1, by unfold R4.ok R4.size at *; omega⟩
  conv => lhs; unfold V
  rw [hn]
  simp only [VV]
  rw [cutM_congr (d := true) hr fun r' h1 h2 => (VV_fuel n r'.size r' h1 (by omega) (Nat.le_refl _)), cutM_congr (d := false) hr fun r' h1 h2 => (VV_fuel n r'.size r' h1 (by omega) (Nat.le_refl _))]
  rfl
/-- By size, ahead of which all smaller ones. -/
theorem R4.ind {p : R4 → Prop} (hs : ∀ r : R4, r.ok w h → (∀ r' : R4, r'.ok w h → r'.size + 1 ≤ r.size → p r') → p r) : ∀ r : R4, r.ok w h → p r := by
  suffices H : ∀ n (r : R4), r.ok w h → r.size ≤ n → p r from fun r hr => H _ r hr (Nat.le_refl _)
  intro n
  induction n with
  | zero => intro r hr hn; unfold R4.ok R4.size at *; omega
  | succ n ih => intro r hr hn; exact hs r hr fun r' h1 h2 => ih r' h1 (by omega)
theorem V_le {c : Int} (hl : ∀ r : R4, r.ok w h → leaf r ≤ c * ((r.a * r.b : Nat) : Int)) (hc : 0 ≤ c) : ∀ r : R4, r.ok w h → V leaf r ≤ c * ((r.a * r.b : Nat) : Int) := by
  refine R4.ind fun r hr ih => ?_
  rw [V_eq hr]
  have h1 := hl r hr
  have hp : 0 ≤ c * ((r.a * r.b : Nat) : Int) := Int.mul_nonneg hc (by omega)
  have key : ∀ d, cutM (V leaf) r d ≤ c * ((r.a * r.b : Nat) : Int) := fun d => by
    unfold cutM
    refine mxc_le hp _ fun i h2 h3 => ?_
    have h4 : i + 1 ≤ r.len d := by omega
    have e1 := ih _ (lo_ok hr h2 h4) (lo_size hr h2 h4)
    have e2 := ih _ (hi_ok hr h2 h4) (hi_size hr h2 h4)
    have e3 : (r.lo d i).a * (r.lo d i).b + (r.hi d i).a * (r.hi d i).b = r.a * r.b := by
      unfold R4.lo R4.hi R4.len at *
      cases d
      · simp only [Bool.false_eq_true, if_false] at *
        rw [← Nat.mul_add]; congr 1; omega
      · simp only [if_true] at *
        rw [← Nat.add_mul]; congr 1; omega
    have e4 : c * (((r.lo d i).a * (r.lo d i).b : Nat) : Int) + c * (((r.hi d i).a * (r.hi d i).b : Nat) : Int) = c * ((r.a * r.b : Nat) : Int) := by
      rw [← Int.mul_add, ← Int.natCast_add, e3]
    omega
  have := key true
  have := key false
  omega
theorem V_nonneg (hl : ∀ r : R4, 0 ≤ leaf r) {r : R4} (hr : r.ok w h) : 0 ≤ V leaf r := by
  rw [V_eq hr]; have := hl r; omega
theorem cut_le_V {r : R4} (hr : r.ok w h) (d : Bool) : cutM (V leaf) r d ≤ V leaf r := by rw [V_eq hr]; cases d <;> omega
end
/-- The rectangles behind which the walk stands. -/
def done (w h i j y x : Nat) (r : R4) : Prop := r.ok w h ∧ (r.a ≤ i ∨ (r.a = i + 1 ∧ (r.b ≤ j ∨ (r.b = j + 1 ∧ (r.y < y ∨ (r.y = y ∧ r.x < x))))))
section
variable {w h i j y x : Nat}
theorem done_start : done w h 0 0 0 0 = fun _ => False := by
  funext r
  unfold done R4.ok
  exact propext ⟨by omega, False.elim⟩
theorem done_end : done w h w 0 0 0 = fun r => r.ok w h := by
  funext r
  unfold done R4.ok
  exact propext ⟨fun h => h.1, fun h => ⟨h, by omega⟩⟩
theorem done_row : done w h i j y (w - i) = done w h i j (y + 1) 0 := by
  funext r
  unfold done R4.ok
  exact propext ⟨fun h => ⟨h.1, by omega⟩, fun h => ⟨h.1, by omega⟩⟩
theorem done_high : done w h i j (h - j) 0 = done w h i (j + 1) 0 0 := by
  funext r
  unfold done R4.ok
  exact propext ⟨fun h => ⟨h.1, by omega⟩, fun h => ⟨h.1, by omega⟩⟩
theorem done_wide : done w h i h 0 0 = done w h (i + 1) 0 0 0 := by
  funext r
  unfold done R4.ok
  exact propext ⟨fun h => ⟨h.1, by omega⟩, fun h => ⟨h.1, by omega⟩⟩
theorem done_step {r : R4} (hr : r.ok w h) (ha : r.a = i + 1) (hb : r.b = j + 1) (hy : r.y = y) (hx : r.x = x) : done w h i j y (x + 1) = fun r' => r' = r ∨ done w h i j y x r' := by
  funext r'
  obtain ⟨x1, y1, a1, b1⟩ := r
  obtain ⟨x2, y2, a2, b2⟩ := r'
  unfold done R4.ok at *
  simp only [R4.mk.injEq] at *
  exact propext ⟨fun h => by omega, fun h => by omega⟩
theorem done_part {r r' : R4} (hr : r.ok w h) (ha : r.a = i + 1) (hb : r.b = j + 1) (hr' : r'.ok w h) (hs : (r'.a < r.a ∧ r'.b ≤ r.b) ∨ (r'.a = r.a ∧ r'.b < r.b)) : done w h i j y x r' := by
  unfold done R4.ok at *
  exact ⟨hr', by omega⟩
end
section
variable {S : Type} (step : R4 → S → S)
def fX (y a b : Nat) : Nat → S → S
  | 0, s => s
  | k + 1, s => step ⟨k, y, a, b⟩ (fX y a b k s)
def fY (w a b : Nat) : Nat → S → S
  | 0, s => s
  | k + 1, s => fX step k a b (w + 1 - a) (fY w a b k s)
def fH (w h a : Nat) : Nat → S → S
  | 0, s => s
  | k + 1, s => fY step w a (k + 1) (h + 1 - (k + 1)) (fH w h a k s)
def fW (w h : Nat) : Nat → S → S
  | 0, s => s
  | k + 1, s => fH step w h (k + 1) h (fW w h k s)
/-- A walk through all rectangles keeps what each step keeps. -/
structure EachI (w h : Nat) (I : (R4 → Prop) → S → Prop) : Prop where
  go : ∀ i j y x s, i < w → j < h → y + (j + 1) ≤ h → x + (i + 1) ≤ w → I (done w h i j y x) s → I (done w h i j y (x + 1)) (step ⟨x, y, i + 1, j + 1⟩ s)
variable {step} {w h : Nat} {I : (R4 → Prop) → S → Prop}
theorem EachI.fx (H : EachI step w h I) {i j y : Nat} {s : S} (hi : i < w) (hj : j < h) (hy : y + (j + 1) ≤ h) (hs : I (done w h i j y 0) s) : ∀ k, k ≤ w - i → I (done w h i j y k) (fX step y (i + 1) (j + 1) k s)
  | 0, _ => hs
  | k + 1, hk => H.go i j y k _ hi hj hy (by omega) (H.fx hi hj hy hs k (by omega))
theorem EachI.fy (H : EachI step w h I) {i j : Nat} {s : S} (hi : i < w) (hj : j < h) (hs : I (done w h i j 0 0) s) : ∀ k, k ≤ h - j → I (done w h i j k 0) (fY step w (i + 1) (j + 1) k s)
  | 0, _ => hs
  | k + 1, hk => by
    have := H.fx hi hj (by omega) (H.fy hi hj hs k (by omega)) (w - i) (Nat.le_refl _)
    rw [done_row] at this
    rw [fY, show w + 1 - (i + 1) = w - i by omega]
    exact this
theorem EachI.fh (H : EachI step w h I) {i : Nat} {s : S} (hi : i < w) (hs : I (done w h i 0 0 0) s) : ∀ k, k ≤ h → I (done w h i k 0 0) (fH step w h (i + 1) k s)
  | 0, _ => hs
  | k + 1, hk => by
    have := H.fy hi (by omega) (H.fh hi hs k (by omega)) (h - k) (Nat.le_refl _)
    rw [done_high] at this
    rw [fH, show h + 1 - (k + 1) = h - k by omega]
    exact this
theorem EachI.fw (H : EachI step w h I) {s : S} (hs : I (done w h 0 0 0 0) s) : ∀ k, k ≤ w → I (done w h k 0 0 0) (fW step w h k s)
  | 0, _ => hs
  | k + 1, hk => by
    have := H.fh (by omega) (H.fw hs k (by omega)) h (Nat.le_refl _)
    rw [done_wide] at this
    exact this
theorem EachI.all (H : EachI step w h I) {s : S} (hs : I (fun _ => False) s) : I (fun r => r.ok w h) (fW step w h w s) := by
  rw [← done_end, ← done_start (w := w) (h := h)] at *
  rw [done_end, ← done_end]
  refine H.fw ?_ w (Nat.le_refl _)
  rw [done_start]
  rw [done_start] at hs
  exact hs
end
/-- A table's number of a rectangle. -/
def tg (w h : Nat) (v : List Int) (r : R4) : Int := v.getD (r.at w h) 0
/-- One step: the worth of a rectangle from those of its parts. -/
def bstep (leaf : R4 → Int) (w h : Nat) (r : R4) (v : List Int) : List Int := v.set (r.at w h) (max (max (leaf r) (cutM (tg w h v) r true)) (cutM (tg w h v) r false))
theorem part_done {w h i j y x : Nat} {r : R4} {d : Bool} {k : Nat} (hr : r.ok w h) (ha : r.a = i + 1) (hb : r.b = j + 1) (h1 : 1 ≤ k) (h2 : k + 1 ≤ r.len d) : done w h i j y x (r.lo d k) ∧ done w h i j y x (r.hi d k) := by
  refine ⟨done_part hr ha hb (lo_ok hr h1 h2) ?_, done_part hr ha hb (hi_ok hr h1 h2) ?_⟩
  · unfold R4.lo R4.len at *; cases d <;> simp at * <;> omega
  · unfold R4.hi R4.len at *; cases d <;> simp at * <;> omega
structure TabI (val : R4 → Int) (w h : Nat) (D : R4 → Prop) (v : List Int) : Prop where
  len : v.length = total w h
  dn : ∀ r : R4, D r → tg w h v r = val r
  out : ∀ i, v[i]? = some 0 ∨ (∃ r : R4, D r ∧ r.at w h = i) ∨ v[i]? = none
theorem tg_set {w h : Nat} (hw : w ≤ 16) (hh : h ≤ 16) {r r' : R4} (hr : r.ok w h) (hr' : r'.ok w h) {v : List Int} (hl : v.length = total w h) (z : Int) : tg w h (v.set (r.at w h) z) r' = if r' = r then z else tg w h v r' := by
  have h1 := at_lt hw hh hr
  unfold tg
  by_cases e : r' = r
  · subst e
    simp [List.getD_eq_getElem?_getD, hl, h1]
  · rw [if_neg e]
    simp only [List.getD_eq_getElem?_getD]
    rw [List.getElem?_set_ne fun q => e (at_inj hw hr' hr q.symm)]
section
variable {val : R4 → Int} {w h i j y x : Nat} {v : List Int}
theorem step_ok (hi : i < w) (hj : j < h) (hy : y + (j + 1) ≤ h) (hx : x + (i + 1) ≤ w) : (R4.mk x y (i + 1) (j + 1)).ok w h := ⟨by simp, by simp, hx, hy⟩
theorem TabI.cut (H : TabI val w h (done w h i j y x) v) (hr : (R4.mk x y (i + 1) (j + 1)).ok w h) (d : Bool) : cutM (tg w h v) ⟨x, y, i + 1, j + 1⟩ d = cutM val ⟨x, y, i + 1, j + 1⟩ d := by
  unfold cutM
  refine mxc_congr _ fun k h1 h2 => ?_
  have hp := len_pos d hr
  obtain ⟨p1, p2⟩ := part_done (i := i) (j := j) (y := y) (x := x) (k := k) (d := d) hr rfl rfl h1 (by omega)
  rw [H.dn _ p1, H.dn _ p2]
theorem TabI.set (hw : w ≤ 16) (hh : h ≤ 16) (H : TabI val w h (done w h i j y x) v) (hr : (R4.mk x y (i + 1) (j + 1)).ok w h) {z : Int} (hz : z = val ⟨x, y, i + 1, j + 1⟩) :
    TabI val w h (done w h i j y (x + 1)) (v.set ((R4.mk x y (i + 1) (j + 1)).at w h) z) := by
  rw [done_step (i := i) (j := j) (y := y) (x := x) hr rfl rfl rfl rfl]
  refine ⟨by simp [H.len], fun r' hd => ?_, fun k => ?_⟩
  · have hr' : r'.ok w h := by
      rcases hd with rfl | hd
      · exact hr
      · exact hd.1
    rw [tg_set hw hh hr hr' H.len]
    by_cases e : r' = ⟨x, y, i + 1, j + 1⟩
    · rw [if_pos e, e, hz]
    · rw [if_neg e]
      rcases hd with e' | hd
      · exact absurd e' e
      · exact H.dn _ hd
  · by_cases e : (R4.mk x y (i + 1) (j + 1)).at w h = k
    · exact .inr (.inl ⟨_, .inl rfl, e⟩)
    · rw [List.getElem?_set_ne e]
      rcases H.out k with h1 | ⟨r, h1, h2⟩ | h1
      · exact .inl h1
      · exact .inr (.inl ⟨r, .inr h1, h2⟩)
      · exact .inr (.inr h1)
theorem TabI.zero : TabI val w h (fun _ => False) (List.replicate (total w h) 0) := by
  refine ⟨by simp, fun r h => h.elim, fun i => ?_⟩
  rcases Nat.lt_or_ge i (total w h) with h1 | h1
  · exact .inl (by simp [h1])
  · exact .inr (.inr (by simp [h1]))
/-- What a table holds, holds of each of its numbers. -/
theorem TabI.all {D : R4 → Prop} {p : Int → Prop} (H : TabI val w h D v) (h0 : p 0) (hv : ∀ r, D r → p (val r)) : ∀ i, p (v.getD i 0) := by
  intro i
  rcases H.out i with h1 | ⟨r, h1, h2⟩ | h1
  · rw [List.getD_eq_getElem?_getD, h1]; exact h0
  · have := H.dn r h1
    unfold tg at this
    rw [h2] at this
    rw [this]
    exact hv r h1
  · rw [List.getD_eq_getElem?_getD, h1]; exact h0
end
theorem bstep_each {leaf : R4 → Int} {w h : Nat} (hw : w ≤ 16) (hh : h ≤ 16) : EachI (bstep leaf w h) w h (TabI (V leaf) w h) := by
  refine ⟨fun i j y x v hi hj hy hx H => ?_⟩
  have hr := step_ok hi hj hy hx
  unfold bstep
  refine H.set hw hh hr ?_
  rw [H.cut hr, H.cut hr, V_eq hr]
/-- The table that is reckoned. -/
def bestT (leaf : R4 → Int) (w h : Nat) : List Int := fW (bstep leaf w h) w h w (List.replicate (total w h) 0)
theorem bestT_ok {leaf : R4 → Int} {w h : Nat} (hw : w ≤ 16) (hh : h ≤ 16) : TabI (V leaf) w h (fun r => r.ok w h) (bestT leaf w h) := by
  exact (bstep_each hw hh).all TabI.zero
end Go.Proofs.YtedbjmgchfgabaaDoor.Abs
namespace Go.Proofs.YtedbjmgchfgabaaDoor.Abs
set_option linter.unusedSimpArgs false
set_option linter.unusedVariables false
abbrev Brd := List ByteArray
def rowOf (B : Brd) (y : Nat) : ByteArray := B.getD y ByteArray.empty
/-- The grade of a cell. -/
def gr (B : Brd) (x y : Nat) : Int := (byteAt (rowOf B y) x : Int) - 48
def rowc (B : Brd) (g : Int) (y x : Nat) : Nat → Nat
  | 0 => 0
  | k + 1 => rowc B g y x k + (if g ≤ gr B (x + k) y then 1 else 0)
def cnt (B : Brd) (g : Int) (x y a : Nat) : Nat → Nat
  | 0 => 0
  | k + 1 => cnt B g x y a k + rowc B g (y + k) x a
theorem rowc_le (B : Brd) (g : Int) (y x : Nat) : ∀ k, rowc B g y x k ≤ k
  | 0 => Nat.le_refl _
  | k + 1 => by have := rowc_le B g y x k; simp only [rowc]; split <;> omega
theorem rowc_add (B : Brd) (g : Int) (y x a : Nat) : ∀ k, rowc B g y x (a + k) = rowc B g y x a + rowc B g y (x + a) k
  | 0 => rfl
  | k + 1 => by rw [← Nat.add_assoc, rowc, rowc_add B g y x a k, rowc, ← Nat.add_assoc, Nat.add_assoc]
theorem cnt_le (B : Brd) (g : Int) (x y a : Nat) : ∀ k, cnt B g x y a k ≤ a * k
  | 0 => Nat.le_refl _
  | k + 1 => by
    have := cnt_le B g x y a k
    have := rowc_le B g (y + k) x a
    simp only [cnt, Nat.mul_succ]; omega
theorem cnt_addY (B : Brd) (g : Int) (x y a b : Nat) : ∀ k, cnt B g x y a (b + k) = cnt B g x y a b + cnt B g x (y + b) a k
  | 0 => rfl
  | k + 1 => by rw [← Nat.add_assoc, cnt, cnt_addY B g x y a b k, cnt, ← Nat.add_assoc, Nat.add_assoc]
theorem cnt_addX (B : Brd) (g : Int) (x y a c : Nat) : ∀ k, cnt B g x y (a + c) k = cnt B g x y a k + cnt B g (x + a) y c k
  | 0 => rfl
  | k + 1 => by rw [cnt, cnt_addX B g x y a c k, cnt, cnt, rowc_add]; omega
/-- The count of a rectangle from the sums above and to the left of its corners. -/
theorem cnt_corners (B : Brd) (g : Int) (x y a b : Nat) : (cnt B g x y a b : Int) = (cnt B g 0 0 (x + a) (y + b) : Int) - cnt B g 0 0 x (y + b) - cnt B g 0 0 (x + a) y + cnt B g 0 0 x y := by
  have h1 := cnt_addY B g 0 0 (x + a) y b
  have h2 := cnt_addY B g 0 0 x y b
  have h3 := cnt_addX B g 0 (0 + y) x a b
  simp only [Nat.zero_add] at h1 h2 h3
  omega
theorem getD_in {α : Type} (l : List α) (d : α) {i : Nat} (h : i < l.length) : l.getD i d = l[i] := by simp [List.getD_eq_getElem?_getD, h]
/-- A kind of piece. -/
structure Kd where
  w : Int
  h : Int
  g : Int
  worth : Int
  turn : Bool
deriving DecidableEq
instance : Inhabited Kd := ⟨⟨0, 0, 0, 0, false⟩⟩
def Kd.cells (k : Kd) : List Value := [.int .i64 k.w, .int .i64 k.h, .int .i64 k.g, .int .i64 k.worth, .bool k.turn]
def Kd.v (k : Kd) : Value := .agg #[.int .i64 k.w, .int .i64 k.h, .int .i64 k.g, .int .i64 k.worth, .bool k.turn]
def kdB (k : Kd) : Bool := decide (1 ≤ k.w ∧ k.w ≤ 16 ∧ 1 ≤ k.h ∧ k.h ≤ 16 ∧ 1 ≤ k.g ∧ k.g ≤ 9 ∧ 1 ≤ k.worth ∧ k.worth ≤ 1000000)
def kindsB (K : List Kd) : Bool := decide (K.length ≤ 12) && K.all kdB
def rowB (n : Nat) (s : ByteArray) : Bool := decide (s.size = n) && (List.range s.size).all fun i => decide (48 ≤ byteAt s i ∧ byteAt s i ≤ 57)
def skinB (B : Brd) : Bool := decide (1 ≤ B.length ∧ B.length ≤ 48 ∧ 1 ≤ (rowOf B 0).size ∧ (rowOf B 0).size ≤ 48) && B.all (rowB (rowOf B 0).size)
def boardB (B : Brd) : Bool := skinB B && decide (B.length ≤ 16 ∧ (rowOf B 0).size ≤ 16)
def goodB (B : Brd) (K : List Kd) : Bool := boardB B && kindsB K
def bw (B : Brd) : Nat := (rowOf B 0).size
def bh (B : Brd) : Nat := B.length
/-- Whether a kind fits a rectangle: turned or not. -/
def fitsM (B : Brd) (k : Kd) (r : R4) : Option Bool :=
  if k.w = r.a ∧ k.h = r.b then (if cnt B k.g r.x r.y r.a r.b = r.a * r.b then some false else none)
  else if k.turn = true ∧ k.w = r.b ∧ k.h = r.a then (if cnt B k.g r.x r.y r.a r.b = r.a * r.b then some true else none)
  else none
def leafN (B : Brd) (K : List Kd) (r : R4) : Nat → Int
  | 0 => 0
  | i + 1 => if (fitsM B (K.getD i default) r).isSome = true ∧ leafN B K r i < (K.getD i default).worth then (K.getD i default).worth else leafN B K r i
def leafM (B : Brd) (K : List Kd) (r : R4) : Int := leafN B K r K.length
theorem kinds_get {K : List Kd} (h : kindsB K = true) {i : Nat} (hi : i < K.length) : kdB (K.getD i default) = true := by
  unfold kindsB at h
  simp only [Bool.and_eq_true, List.all_eq_true] at h
  rw [getD_in _ _ hi]
  exact h.2 _ (List.getElem_mem hi)
theorem kdB_in {k : Kd} (h : kdB k = true) : 1 ≤ k.w ∧ k.w ≤ 16 ∧ 1 ≤ k.h ∧ k.h ≤ 16 ∧ 1 ≤ k.g ∧ k.g ≤ 9 ∧ 1 ≤ k.worth ∧ k.worth ≤ 1000000 := by simpa [kdB] using h
theorem leafN_in {B : Brd} {K : List Kd} (hK : kindsB K = true) (r : R4) : ∀ n, n ≤ K.length → 0 ≤ leafN B K r n ∧ leafN B K r n ≤ 1000000
  | 0, _ => by simp [leafN]
  | n + 1, hn => by
    have := leafN_in (B := B) hK r n (by omega)
    have := kdB_in (kinds_get hK (show n < K.length by omega))
    simp only [leafN]; split <;> omega
theorem good_in {B : Brd} (h : boardB B = true) : 1 ≤ bh B ∧ bh B ≤ 16 ∧ 1 ≤ bw B ∧ bw B ≤ 16 := by
  simp only [boardB, skinB, Bool.and_eq_true, decide_eq_true_eq] at h
  unfold bh bw
  omega
theorem skin_row {B : Brd} (h : skinB B = true) {y : Nat} (hy : y < B.length) : (rowOf B y).size = bw B ∧ ∀ x, x < bw B → 48 ≤ byteAt (rowOf B y) x ∧ byteAt (rowOf B y) x ≤ 57 := by
  simp only [skinB, Bool.and_eq_true, List.all_eq_true] at h
  have := h.2 (rowOf B y) (by unfold rowOf; rw [getD_in _ _ hy]; exact List.getElem_mem hy)
  simp only [rowB, Bool.and_eq_true, decide_eq_true_eq, List.all_eq_true, List.mem_range] at this
  refine ⟨this.1, fun x hx => this.2 x ?_⟩
  unfold bw at hx
  omega
/-- The worths of the tables of a board. -/
def boardT (B : Brd) (K : List Kd) : List Int := bestT (leafM B K) (bw B) (bh B)
def wholeR (B : Brd) : R4 := ⟨0, 0, bw B, bh B⟩
def bestM (B : Brd) (K : List Kd) : Int := tg (bw B) (bh B) (boardT B K) (wholeR B)
end Go.Proofs.YtedbjmgchfgabaaDoor.Abs
namespace Go.Proofs.YtedbjmgchfgabaaDoor.Abs
set_option linter.unusedSimpArgs false
set_option linter.unusedVariables false
open Go.RowKit
open Go.Proofs.YtedbjmgchfgabaaDoor.Sim
open Go.Proofs
def I64 (x : Int) : Prop := -9223372036854775808 ≤ x ∧ x ≤ 9223372036854775807
def Rc.i64 (r : Rc) : Prop := I64 r.x ∧ I64 r.y ∧ I64 r.w ∧ I64 r.h
def rightB (r : Rc) : Bool := decide (1 ≤ r.w ∧ 1 ≤ r.h ∧ 0 ≤ r.x ∧ 0 ≤ r.y)
def liesB (r : Rc) (w h : Int) : Bool := decide (r.w ≤ w ∧ r.x ≤ w - r.w ∧ r.h ≤ h ∧ r.y ≤ h - r.h)
def pairV (x : Int × Int) : Value := .tuple #[.int .i64 x.1, .int .i64 x.2]
def rectsM (w h : Int) : Int × Int := if sidesB w h then (w * (w + 1) / 2 * (h * (h + 1) / 2), 0) else (0, 2)
set_option maxRecDepth 100000 in
theorem Rects_ok {m : AM} (w h : Int) : ACall Tryd.prog 49 #[.int .i64 w, .int .i64 h] m (Ret (pairV (rectsM w h)) m) := by
  refine ACall.start Tryd.func49 rfl rfl ?_
  cases hs : sidesB w h with
  | true =>
    have c1 := fun m => sides_ok (m := m) w h
    rw [hs] at c1
    have hs' := hs
    simp only [sidesB, decide_eq_true_eq] at hs'
    have h1 := mul_in (a := w) (b := w + 1) (m := 16) (n := 17) (by omega) (by omega) (by omega) (by omega)
    have h2 := mul_in (a := h) (b := h + 1) (m := 16) (n := 17) (by omega) (by omega) (by omega) (by omega)
    have h3 := mul_in (a := w * (w + 1) / 2) (b := h * (h + 1) / 2) (m := 136) (n := 136) (by omega) (by omega) (by omega) (by omega)
    (repeat (first | (with_reducible refine AWo.cons ?_) | ((with_reducible refine Step.id ?_); first | ((with_reducible apply Step.move); exact rfl; exact rfl) | ((with_reducible apply Step.assign); exact rfl; exact rfl) | ((with_reducible apply Step.add); exact rfl; exact rfl; (focus (omega)); exact rfl) | ((with_reducible apply Step.mul); exact rfl; exact rfl; (focus (omega)); exact rfl) | ((with_reducible apply Step.quo); exact rfl; exact rfl; (focus (omega)); (focus (omega)); exact rfl) | ((with_reducible apply Step.not); exact rfl; exact rfl) | ((with_reducible apply Step.callR fit); exact rfl; exact Tryd.func62; exact rfl; exact rfl; exact (c1 _))) | (with_reducible refine AWo.nil ?_) | ((with_reducible apply AW.seq)) | ((with_reducible apply Then.n)) | ((with_reducible apply AW.regL)) | ((with_reducible apply AW.skip)) | ((with_reducible apply AW.condF); exact rfl; (focus (rfl)))))
    (refine AW.retD (l := [(4, _), (5, _)]) (by repeat (first | exact trivial | (refine And.intro ⟨rfl, by (exact .int _ _)⟩ ?_))) ?_; (repeat (first | refine Then.r ?_ | refine InBlk.r ?_)))
    exact ⟨_, rfl, by simp only [rectsM, hs, if_true]; rfl, rfl⟩
  | false =>
    have c1 := fun m => sides_ok (m := m) w h
    rw [hs] at c1
    (repeat (first | (with_reducible refine AWo.cons ?_) | ((with_reducible refine Step.id ?_); first | ((with_reducible apply Step.move); exact rfl; exact rfl) | ((with_reducible apply Step.assign); exact rfl; exact rfl) | ((with_reducible apply Step.not); exact rfl; exact rfl) | ((with_reducible apply Step.callR fit); exact rfl; exact Tryd.func62; exact rfl; exact rfl; exact (c1 _))) | (with_reducible refine AWo.nil ?_) | ((with_reducible apply AW.seq)) | ((with_reducible apply Then.n)) | ((with_reducible apply AW.regL)) | ((with_reducible apply AW.condT); exact rfl; (focus (rfl)))))
    (refine AW.retD (l := [(4, _), (5, _)]) (by repeat (first | exact trivial | (refine And.intro ⟨rfl, by (exact .int _ _)⟩ ?_))) ?_; (repeat (first | refine Then.r ?_ | refine InBlk.r ?_)))
    exact ⟨_, rfl, by simp only [rectsM, hs]; rfl, rfl⟩
set_option maxRecDepth 100000 in
theorem right_ok {m : AM} (r : Rc) : ACall Tryd.prog 120 #[r.v] m (Ret (.bool (rightB r)) m) := by
  obtain ⟨x, y, w, h⟩ := r
  refine ACall.start Tryd.func120 rfl rfl ?_
  by_cases a1 : 1 ≤ w
  · by_cases a2 : 1 ≤ h
    · by_cases a3 : 0 ≤ x
      · (repeat (first | (with_reducible refine AWo.cons ?_) | ((with_reducible refine Step.id ?_); first | ((with_reducible apply Step.gdT); exact rfl; exact rfl; (focus ((simp only [decide_eq_true_eq, decide_eq_false_iff_not, Bool.not_eq_true', Bool.not_eq_false', Bool.not_true, Bool.not_false]; first | assumption | omega)))) | ((with_reducible apply Step.move); exact rfl; exact rfl) | ((with_reducible apply Step.assign); exact rfl; exact rfl) | ((with_reducible apply Step.load); exact rfl; (focus (decide +kernel)); exact rfl; (focus (exact Rd.new rfl rfl))) | ((with_reducible apply Step.field0); exact rfl; (focus (decide +kernel)); exact rfl) | ((with_reducible apply Step.field (k := 1)); exact rfl; (focus (decide +kernel)); exact rfl) | ((with_reducible apply Step.field (k := 2)); exact rfl; (focus (decide +kernel)); exact rfl) | ((with_reducible apply Step.field (k := 3)); exact rfl; (focus (decide +kernel)); exact rfl) | ((with_reducible apply Step.geq); exact rfl; exact rfl; exact rfl) | ((with_reducible apply Step.pickT); exact rfl; exact rfl; exact rfl; exact rfl; (focus ((simp only [decide_eq_true_eq, decide_eq_false_iff_not, Bool.not_eq_true', Bool.not_eq_false', Bool.not_true, Bool.not_false]; first | assumption | omega)))) | ((with_reducible apply Step.box 0); exact rfl; exact rfl; (focus (kernel_rfl)); exact rfl; (focus (first | (simp only [List.nil_append, List.cons_append, List.set_cons_zero, List.set_cons_succ, iv_set, bv_set, iv_rep, bv_rep]; done) | (simp only [List.nil_append, List.cons_append, List.set_cons_zero, List.set_cons_succ, iv_set, bv_set, iv_rep, bv_rep]; rfl) | rfl)))) | (with_reducible refine AWo.nil ?_) | ((with_reducible apply AW.seq)) | ((with_reducible apply Then.n)) | ((with_reducible apply AW.regL))))
        (refine AW.retD (l := [(2, _)]) (by repeat (first | exact trivial | (refine And.intro ⟨rfl, by (exact .bool _)⟩ ?_))) ?_; (repeat (first | refine Then.r ?_ | refine InBlk.r ?_)))
        exact ⟨_, rfl, by simp [rightB, a1, a2, a3], rfl⟩
      · (repeat (first | (with_reducible refine AWo.cons ?_) | ((with_reducible refine Step.id ?_); first | ((with_reducible apply Step.gdT); exact rfl; exact rfl; (focus ((simp only [decide_eq_true_eq, decide_eq_false_iff_not, Bool.not_eq_true', Bool.not_eq_false', Bool.not_true, Bool.not_false]; first | assumption | omega)))) | ((with_reducible apply Step.gdF); exact rfl; exact rfl; (focus ((simp only [decide_eq_true_eq, decide_eq_false_iff_not, Bool.not_eq_true', Bool.not_eq_false', Bool.not_true, Bool.not_false]; first | assumption | omega)))) | ((with_reducible apply Step.move); exact rfl; exact rfl) | ((with_reducible apply Step.assign); exact rfl; exact rfl) | ((with_reducible apply Step.load); exact rfl; (focus (decide +kernel)); exact rfl; (focus (exact Rd.new rfl rfl))) | ((with_reducible apply Step.field0); exact rfl; (focus (decide +kernel)); exact rfl) | ((with_reducible apply Step.field (k := 2)); exact rfl; (focus (decide +kernel)); exact rfl) | ((with_reducible apply Step.field (k := 3)); exact rfl; (focus (decide +kernel)); exact rfl) | ((with_reducible apply Step.geq); exact rfl; exact rfl; exact rfl) | ((with_reducible apply Step.pickT); exact rfl; exact rfl; exact rfl; exact rfl; (focus ((simp only [decide_eq_true_eq, decide_eq_false_iff_not, Bool.not_eq_true', Bool.not_eq_false', Bool.not_true, Bool.not_false]; first | assumption | omega)))) | ((with_reducible apply Step.pickF); exact rfl; exact rfl; exact rfl; exact rfl; (focus ((simp only [decide_eq_true_eq, decide_eq_false_iff_not, Bool.not_eq_true', Bool.not_eq_false', Bool.not_true, Bool.not_false]; first | assumption | omega)))) | ((with_reducible apply Step.box 0); exact rfl; exact rfl; (focus (kernel_rfl)); exact rfl; (focus (first | (simp only [List.nil_append, List.cons_append, List.set_cons_zero, List.set_cons_succ, iv_set, bv_set, iv_rep, bv_rep]; done) | (simp only [List.nil_append, List.cons_append, List.set_cons_zero, List.set_cons_succ, iv_set, bv_set, iv_rep, bv_rep]; rfl) | rfl)))) | (with_reducible refine AWo.nil ?_) | ((with_reducible apply AW.seq)) | ((with_reducible apply Then.n)) | ((with_reducible apply AW.regL))))
        (refine AW.retD (l := [(2, _)]) (by repeat (first | exact trivial | (refine And.intro ⟨rfl, by (exact .bool _)⟩ ?_))) ?_; (repeat (first | refine Then.r ?_ | refine InBlk.r ?_)))
        exact ⟨_, rfl, by simp [rightB, a1, a2, a3], rfl⟩
    · (repeat (first | (with_reducible refine AWo.cons ?_) | ((with_reducible refine Step.id ?_); first | ((with_reducible apply Step.gdT); exact rfl; exact rfl; (focus ((simp only [decide_eq_true_eq, decide_eq_false_iff_not, Bool.not_eq_true', Bool.not_eq_false', Bool.not_true, Bool.not_false]; first | assumption | omega)))) | ((with_reducible apply Step.gdF); exact rfl; exact rfl; (focus (first | rfl | (simp only [decide_eq_true_eq, decide_eq_false_iff_not, Bool.not_eq_true', Bool.not_eq_false', Bool.not_true, Bool.not_false]; first | assumption | omega)))) | ((with_reducible apply Step.move); exact rfl; exact rfl) | ((with_reducible apply Step.assign); exact rfl; exact rfl) | ((with_reducible apply Step.load); exact rfl; (focus (decide +kernel)); exact rfl; (focus (exact Rd.new rfl rfl))) | ((with_reducible apply Step.field (k := 2)); exact rfl; (focus (decide +kernel)); exact rfl) | ((with_reducible apply Step.field (k := 3)); exact rfl; (focus (decide +kernel)); exact rfl) | ((with_reducible apply Step.geq); exact rfl; exact rfl; exact rfl) | ((with_reducible apply Step.pickT); exact rfl; exact rfl; exact rfl; exact rfl; (focus ((simp only [decide_eq_true_eq, decide_eq_false_iff_not, Bool.not_eq_true', Bool.not_eq_false', Bool.not_true, Bool.not_false]; first | assumption | omega)))) | ((with_reducible apply Step.pickF); exact rfl; exact rfl; exact rfl; exact rfl; (focus (first | rfl | (simp only [decide_eq_true_eq, decide_eq_false_iff_not, Bool.not_eq_true', Bool.not_eq_false', Bool.not_true, Bool.not_false]; first | assumption | omega)))) | ((with_reducible apply Step.box 0); exact rfl; exact rfl; (focus (kernel_rfl)); exact rfl; (focus (first | (simp only [List.nil_append, List.cons_append, List.set_cons_zero, List.set_cons_succ, iv_set, bv_set, iv_rep, bv_rep]; done) | (simp only [List.nil_append, List.cons_append, List.set_cons_zero, List.set_cons_succ, iv_set, bv_set, iv_rep, bv_rep]; rfl) | rfl)))) | (with_reducible refine AWo.nil ?_) | ((with_reducible apply AW.seq)) | ((with_reducible apply Then.n)) | ((with_reducible apply AW.regL))))
      (refine AW.retD (l := [(2, _)]) (by repeat (first | exact trivial | (refine And.intro ⟨rfl, by (exact .bool _)⟩ ?_))) ?_; (repeat (first | refine Then.r ?_ | refine InBlk.r ?_)))
      exact ⟨_, rfl, by simp [rightB, a1, a2], rfl⟩
  · (repeat (first | (with_reducible refine AWo.cons ?_) | ((with_reducible refine Step.id ?_); first | ((with_reducible apply Step.gdF); exact rfl; exact rfl; (focus (first | rfl | (simp only [decide_eq_true_eq, decide_eq_false_iff_not, Bool.not_eq_true', Bool.not_eq_false', Bool.not_true, Bool.not_false]; first | assumption | omega)))) | ((with_reducible apply Step.move); exact rfl; exact rfl) | ((with_reducible apply Step.assign); exact rfl; exact rfl) | ((with_reducible apply Step.load); exact rfl; (focus (decide +kernel)); exact rfl; (focus (exact Rd.new rfl rfl))) | ((with_reducible apply Step.field (k := 2)); exact rfl; (focus (decide +kernel)); exact rfl) | ((with_reducible apply Step.geq); exact rfl; exact rfl; exact rfl) | ((with_reducible apply Step.pickF); exact rfl; exact rfl; exact rfl; exact rfl; (focus (first | rfl | (simp only [decide_eq_true_eq, decide_eq_false_iff_not, Bool.not_eq_true', Bool.not_eq_false', Bool.not_true, Bool.not_false]; first | assumption | omega)))) | ((with_reducible apply Step.box 0); exact rfl; exact rfl; (focus (kernel_rfl)); exact rfl; (focus (first | (simp only [List.nil_append, List.cons_append, List.set_cons_zero, List.set_cons_succ, iv_set, bv_set, iv_rep, bv_rep]; done) | (simp only [List.nil_append, List.cons_append, List.set_cons_zero, List.set_cons_succ, iv_set, bv_set, iv_rep, bv_rep]; rfl) | rfl)))) | (with_reducible refine AWo.nil ?_) | ((with_reducible apply AW.seq)) | ((with_reducible apply Then.n)) | ((with_reducible apply AW.regL))))
    (refine AW.retD (l := [(2, _)]) (by repeat (first | exact trivial | (refine And.intro ⟨rfl, by (exact .bool _)⟩ ?_))) ?_; (repeat (first | refine Then.r ?_ | refine InBlk.r ?_)))
    exact ⟨_, rfl, by simp [rightB, a1], rfl⟩
set_option maxRecDepth 100000 in
theorem inside_ok {m : AM} (r : Rc) (w h : Int) (hr : rightB r = true) (hw : 0 ≤ w ∧ w ≤ 100) (hh : 0 ≤ h ∧ h ≤ 100) : ACall Tryd.prog 121 #[r.v, .int .i64 w, .int .i64 h] m (Ret (.bool (liesB r w h)) m) := by
  obtain ⟨x, y, a, b⟩ := r
  simp only [rightB, decide_eq_true_eq] at hr
  simp only [Rc.v]
  refine ACall.start Tryd.func121 rfl rfl ?_
  by_cases a1 : a ≤ w
  · by_cases a2 : x ≤ w - a
    · by_cases a3 : b ≤ h
      · (repeat (first | (with_reducible refine AWo.cons ?_) | ((with_reducible refine Step.id ?_); first | ((with_reducible apply Step.gdT); exact rfl; exact rfl; (focus ((simp only [decide_eq_true_eq, decide_eq_false_iff_not, Bool.not_eq_true', Bool.not_eq_false', Bool.not_true, Bool.not_false]; first | assumption | omega)))) | ((with_reducible apply Step.move); exact rfl; exact rfl) | ((with_reducible apply Step.assign); exact rfl; exact rfl) | ((with_reducible apply Step.load); exact rfl; (focus (decide +kernel)); exact rfl; (focus (exact Rd.new rfl rfl))) | ((with_reducible apply Step.field0); exact rfl; (focus (decide +kernel)); exact rfl) | ((with_reducible apply Step.field (k := 1)); exact rfl; (focus (decide +kernel)); exact rfl) | ((with_reducible apply Step.field (k := 2)); exact rfl; (focus (decide +kernel)); exact rfl) | ((with_reducible apply Step.field (k := 3)); exact rfl; (focus (decide +kernel)); exact rfl) | ((with_reducible apply Step.sub); exact rfl; exact rfl; (focus (omega)); exact rfl) | ((with_reducible apply Step.leq); exact rfl; exact rfl; exact rfl) | ((with_reducible apply Step.pickT); exact rfl; exact rfl; exact rfl; exact rfl; (focus ((simp only [decide_eq_true_eq, decide_eq_false_iff_not, Bool.not_eq_true', Bool.not_eq_false', Bool.not_true, Bool.not_false]; first | assumption | omega)))) | ((with_reducible apply Step.box 0); exact rfl; exact rfl; (focus (kernel_rfl)); exact rfl; (focus (first | (simp only [List.nil_append, List.cons_append, List.set_cons_zero, List.set_cons_succ, iv_set, bv_set, iv_rep, bv_rep]; done) | (simp only [List.nil_append, List.cons_append, List.set_cons_zero, List.set_cons_succ, iv_set, bv_set, iv_rep, bv_rep]; rfl) | rfl)))) | (with_reducible refine AWo.nil ?_) | ((with_reducible apply AW.seq)) | ((with_reducible apply Then.n)) | ((with_reducible apply AW.regL))))
        (refine AW.retD (l := [(6, _)]) (by repeat (first | exact trivial | (refine And.intro ⟨rfl, by (exact .bool _)⟩ ?_))) ?_; (repeat (first | refine Then.r ?_ | refine InBlk.r ?_)))
        exact ⟨_, rfl, by simp [liesB, a1, a2, a3], rfl⟩
      · (repeat (first | (with_reducible refine AWo.cons ?_) | ((with_reducible refine Step.id ?_); first | ((with_reducible apply Step.gdT); exact rfl; exact rfl; (focus ((simp only [decide_eq_true_eq, decide_eq_false_iff_not, Bool.not_eq_true', Bool.not_eq_false', Bool.not_true, Bool.not_false]; first | assumption | omega)))) | ((with_reducible apply Step.gdF); exact rfl; exact rfl; (focus ((simp only [decide_eq_true_eq, decide_eq_false_iff_not, Bool.not_eq_true', Bool.not_eq_false', Bool.not_true, Bool.not_false]; first | assumption | omega)))) | ((with_reducible apply Step.move); exact rfl; exact rfl) | ((with_reducible apply Step.assign); exact rfl; exact rfl) | ((with_reducible apply Step.load); exact rfl; (focus (decide +kernel)); exact rfl; (focus (exact Rd.new rfl rfl))) | ((with_reducible apply Step.field0); exact rfl; (focus (decide +kernel)); exact rfl) | ((with_reducible apply Step.field (k := 2)); exact rfl; (focus (decide +kernel)); exact rfl) | ((with_reducible apply Step.field (k := 3)); exact rfl; (focus (decide +kernel)); exact rfl) | ((with_reducible apply Step.sub); exact rfl; exact rfl; (focus (omega)); exact rfl) | ((with_reducible apply Step.leq); exact rfl; exact rfl; exact rfl) | ((with_reducible apply Step.pickT); exact rfl; exact rfl; exact rfl; exact rfl; (focus ((simp only [decide_eq_true_eq, decide_eq_false_iff_not, Bool.not_eq_true', Bool.not_eq_false', Bool.not_true, Bool.not_false]; first | assumption | omega)))) | ((with_reducible apply Step.pickF); exact rfl; exact rfl; exact rfl; exact rfl; (focus ((simp only [decide_eq_true_eq, decide_eq_false_iff_not, Bool.not_eq_true', Bool.not_eq_false', Bool.not_true, Bool.not_false]; first | assumption | omega)))) | ((with_reducible apply Step.box 0); exact rfl; exact rfl; (focus (kernel_rfl)); exact rfl; (focus (first | (simp only [List.nil_append, List.cons_append, List.set_cons_zero, List.set_cons_succ, iv_set, bv_set, iv_rep, bv_rep]; done) | (simp only [List.nil_append, List.cons_append, List.set_cons_zero, List.set_cons_succ, iv_set, bv_set, iv_rep, bv_rep]; rfl) | rfl)))) | (with_reducible refine AWo.nil ?_) | ((with_reducible apply AW.seq)) | ((with_reducible apply Then.n)) | ((with_reducible apply AW.regL))))
        (refine AW.retD (l := [(6, _)]) (by repeat (first | exact trivial | (refine And.intro ⟨rfl, by (exact .bool _)⟩ ?_))) ?_; (repeat (first | refine Then.r ?_ | refine InBlk.r ?_)))
        exact ⟨_, rfl, by simp [liesB, a1, a2, a3], rfl⟩
    · (repeat (first | (with_reducible refine AWo.cons ?_) | ((with_reducible refine Step.id ?_); first | ((with_reducible apply Step.gdT); exact rfl; exact rfl; (focus ((simp only [decide_eq_true_eq, decide_eq_false_iff_not, Bool.not_eq_true', Bool.not_eq_false', Bool.not_true, Bool.not_false]; first | assumption | omega)))) | ((with_reducible apply Step.gdF); exact rfl; exact rfl; (focus (first | rfl | (simp only [decide_eq_true_eq, decide_eq_false_iff_not, Bool.not_eq_true', Bool.not_eq_false', Bool.not_true, Bool.not_false]; first | assumption | omega)))) | ((with_reducible apply Step.move); exact rfl; exact rfl) | ((with_reducible apply Step.assign); exact rfl; exact rfl) | ((with_reducible apply Step.load); exact rfl; (focus (decide +kernel)); exact rfl; (focus (exact Rd.new rfl rfl))) | ((with_reducible apply Step.field0); exact rfl; (focus (decide +kernel)); exact rfl) | ((with_reducible apply Step.field (k := 2)); exact rfl; (focus (decide +kernel)); exact rfl) | ((with_reducible apply Step.sub); exact rfl; exact rfl; (focus (omega)); exact rfl) | ((with_reducible apply Step.leq); exact rfl; exact rfl; exact rfl) | ((with_reducible apply Step.pickT); exact rfl; exact rfl; exact rfl; exact rfl; (focus ((simp only [decide_eq_true_eq, decide_eq_false_iff_not, Bool.not_eq_true', Bool.not_eq_false', Bool.not_true, Bool.not_false]; first | assumption | omega)))) | ((with_reducible apply Step.pickF); exact rfl; exact rfl; exact rfl; exact rfl; (focus (first | rfl | (simp only [decide_eq_true_eq, decide_eq_false_iff_not, Bool.not_eq_true', Bool.not_eq_false', Bool.not_true, Bool.not_false]; first | assumption | omega)))) | ((with_reducible apply Step.box 0); exact rfl; exact rfl; (focus (kernel_rfl)); exact rfl; (focus (first | (simp only [List.nil_append, List.cons_append, List.set_cons_zero, List.set_cons_succ, iv_set, bv_set, iv_rep, bv_rep]; done) | (simp only [List.nil_append, List.cons_append, List.set_cons_zero, List.set_cons_succ, iv_set, bv_set, iv_rep, bv_rep]; rfl) | rfl)))) | (with_reducible refine AWo.nil ?_) | ((with_reducible apply AW.seq)) | ((with_reducible apply Then.n)) | ((with_reducible apply AW.regL))))
      (refine AW.retD (l := [(6, _)]) (by repeat (first | exact trivial | (refine And.intro ⟨rfl, by (exact .bool _)⟩ ?_))) ?_; (repeat (first | refine Then.r ?_ | refine InBlk.r ?_)))
      exact ⟨_, rfl, by simp [liesB, a1, a2], rfl⟩
  · (repeat (first | (with_reducible refine AWo.cons ?_) | ((with_reducible refine Step.id ?_); first | ((with_reducible apply Step.gdF); exact rfl; exact rfl; (focus (first | rfl | (simp only [decide_eq_true_eq, decide_eq_false_iff_not, Bool.not_eq_true', Bool.not_eq_false', Bool.not_true, Bool.not_false]; first | assumption | omega)))) | ((with_reducible apply Step.move); exact rfl; exact rfl) | ((with_reducible apply Step.assign); exact rfl; exact rfl) | ((with_reducible apply Step.load); exact rfl; (focus (decide +kernel)); exact rfl; (focus (exact Rd.new rfl rfl))) | ((with_reducible apply Step.field (k := 2)); exact rfl; (focus (decide +kernel)); exact rfl) | ((with_reducible apply Step.leq); exact rfl; exact rfl; exact rfl) | ((with_reducible apply Step.pickF); exact rfl; exact rfl; exact rfl; exact rfl; (focus (first | rfl | (simp only [decide_eq_true_eq, decide_eq_false_iff_not, Bool.not_eq_true', Bool.not_eq_false', Bool.not_true, Bool.not_false]; first | assumption | omega)))) | ((with_reducible apply Step.box 0); exact rfl; exact rfl; (focus (kernel_rfl)); exact rfl; (focus (first | (simp only [List.nil_append, List.cons_append, List.set_cons_zero, List.set_cons_succ, iv_set, bv_set, iv_rep, bv_rep]; done) | (simp only [List.nil_append, List.cons_append, List.set_cons_zero, List.set_cons_succ, iv_set, bv_set, iv_rep, bv_rep]; rfl) | rfl)))) | (with_reducible refine AWo.nil ?_) | ((with_reducible apply AW.seq)) | ((with_reducible apply Then.n)) | ((with_reducible apply AW.regL))))
    (refine AW.retD (l := [(6, _)]) (by repeat (first | exact trivial | (refine And.intro ⟨rfl, by (exact .bool _)⟩ ?_))) ?_; (repeat (first | refine Then.r ?_ | refine InBlk.r ?_)))
    exact ⟨_, rfl, by simp [liesB, a1], rfl⟩
end Go.Proofs.YtedbjmgchfgabaaDoor.Abs
namespace Go.Proofs
set_option linter.unusedSimpArgs false
set_option linter.unusedVariables false
open Go.Shelf
def trimD_ren : Go.Shelf.Ren := ⟨fun | 160 => 61 | 232 => 90 | 231 => 89 | 227 => 91 | 234 => 93 | 233 => 92 | 236 => 95 | 235 => 94 | 228 => 107 | 271 => 110 | 151 => 109 | 197 => 108 | 120 => 138 | 152 => 137 | 260 => 136 | 137 => 153 | 119 => 154 | 224 => 145 | 225 => 144 | 217 => 143 | 266 => 157 | n => n, fun | 9 => 9 | 4 => 4 | 3 => 3 | 5 => 5 | 117 => 159 | 116 => 158 | 0 => 0 | 124 => 162 | 21 => 21 | 105 => 177 | 46 => 175 | 119 => 216 | 139 => 219 | 138 => 218 | n => n, fun | 3 => 2 | 4 => 3 | n => n⟩
theorem trimD : Go.Proofs.Lays.n160 Tryd.prog trimD_ren := {
  mixed := by kernel_rfl
  f119 := Tryd.func154.trans (congrArg some (by kernel_rfl))
  f120 := Tryd.func138.trans (congrArg some (by kernel_rfl))
  f137 := Tryd.func153.trans (congrArg some (by kernel_rfl))
  f151 := Tryd.func109.trans (congrArg some (by kernel_rfl))
  f152 := Tryd.func137.trans (congrArg some (by kernel_rfl))
  f160 := Tryd.func61.trans (congrArg some (by kernel_rfl))
  f197 := Tryd.func108.trans (congrArg some (by kernel_rfl))
  f217 := Tryd.func143.trans (congrArg some (by kernel_rfl))
  f224 := Tryd.func145.trans (congrArg some (by kernel_rfl))
  f225 := Tryd.func144.trans (congrArg some (by kernel_rfl))
  f227 := Tryd.func91.trans (congrArg some (by kernel_rfl))
  f228 := Tryd.func107.trans (congrArg some (by kernel_rfl))
  f231 := Tryd.func89.trans (congrArg some (by kernel_rfl))
  f232 := Tryd.func90.trans (congrArg some (by kernel_rfl))
  f233 := Tryd.func92.trans (congrArg some (by kernel_rfl))
  f234 := Tryd.func93.trans (congrArg some (by kernel_rfl))
  f235 := Tryd.func94.trans (congrArg some (by kernel_rfl))
  f236 := Tryd.func95.trans (congrArg some (by kernel_rfl))
  f260 := Tryd.func136.trans (congrArg some (by kernel_rfl))
  f266 := Tryd.func157.trans (congrArg some (by kernel_rfl))
  f271 := Tryd.func110.trans (congrArg some (by kernel_rfl))
  t0 := Tryd.underlying0
  a0 := Tryd.isAgg0
  z0 := Tryd.sizeOf0
  v0 := Tryd.zeroValue0
  t3 := Tryd.underlying3
  a3 := Tryd.isAgg3
  z3 := Tryd.sizeOf3
  v3 := Tryd.zeroValue3
  t4 := Tryd.underlying4
  a4 := Tryd.isAgg4
  z4 := Tryd.sizeOf4
  v4 := Tryd.zeroValue4
  t5 := Tryd.underlying5
  a5 := Tryd.isAgg5
  z5 := Tryd.sizeOf5
  v5 := Tryd.zeroValue5
  t9 := Tryd.underlying9
  a9 := Tryd.isAgg9
  z9 := Tryd.sizeOf9
  v9 := Tryd.zeroValue9
  t21 := Tryd.underlying21
  a21 := Tryd.isAgg21
  z21 := Tryd.sizeOf21
  v21 := Tryd.zeroValue21
  t46 := Tryd.underlying175
  a46 := Tryd.isAgg175
  z46 := Tryd.sizeOf175
  v46 := Tryd.zeroValue175
  t105 := Tryd.underlying177
  a105 := Tryd.isAgg177
  z105 := Tryd.sizeOf177
  v105 := Tryd.zeroValue177
  t116 := Tryd.underlying158
  a116 := Tryd.isAgg158
  z116 := Tryd.sizeOf158
  t117 := Tryd.underlying159
  a117 := Tryd.isAgg159
  z117 := Tryd.sizeOf159
  v117 := Tryd.zeroValue159
  t119 := Tryd.underlying216
  a119 := Tryd.isAgg216
  z119 := Tryd.sizeOf216
  t124 := Tryd.underlying162
  a124 := Tryd.isAgg162
  z124 := Tryd.sizeOf162
  v124 := Tryd.zeroValue162
  t138 := Tryd.underlying218
  a138 := Tryd.isAgg218
  z138 := Tryd.sizeOf218
  v138 := Tryd.zeroValue218
  t139 := Tryd.underlying219
  a139 := Tryd.isAgg219
  z139 := Tryd.sizeOf219
  v139 := Tryd.zeroValue219
  g3 := by kernel_rfl
  g4 := by kernel_rfl }
end Go.Proofs
namespace Go.Proofs.YtedbjmgchfgabaaDoor.Abs
set_option linter.unusedSimpArgs false
set_option linter.unusedVariables false
open Go.RowKit
open Go.Proofs.YtedbjmgchfgabaaDoor.Sim
open Go.Proofs
theorem post_below {base : Nat} {R : Pl} {m : AM} {w w' : World} (h : MRep base R m w) (hb : Below w.heap.size w w') : Post base m m R R w w' :=
  ⟨.refl R, h.kept hb.block, hb.os, hb.tape, hb.output, hb.size, fun k hk _ => hb.block k hk, fun _ h => .inr h⟩
def digits : ByteArray := ⟨#[48, 49, 50, 51, 52, 53, 54, 55, 56, 57]⟩
def trimB (s : ByteArray) : ByteArray := ⟨(Lib.trimS s.data.toList digits.data.toList).toArray⟩
theorem dw_nil {p : UInt8 → Bool} : ∀ (l : List UInt8), l.dropWhile p = [] ↔ ∀ x ∈ l, p x = true
  | [] => by simp
  | a :: l => by
    rw [List.dropWhile_cons]
    by_cases h : p a = true
    · rw [if_pos h, dw_nil l]; simp [h]
    · rw [if_neg h]; simp [h]
theorem dw_head {p : UInt8 → Bool} : ∀ (l : List UInt8) (h : l.dropWhile p ≠ []), p ((l.dropWhile p).head h) = false
  | [], h => absurd rfl h
  | a :: l, h => by
    by_cases hp : p a = true
    · have e : (a :: l).dropWhile p = l.dropWhile p := by rw [List.dropWhile_cons, if_pos hp]
      simp only [e] at h ⊢
      exact dw_head l h
    · have e : (a :: l).dropWhile p = a :: l := by rw [List.dropWhile_cons, if_neg hp]
      simp only [e, List.head_cons]
      simpa using hp
theorem trimS_nil (l cs : List UInt8) : Lib.trimS l cs = [] ↔ ∀ x ∈ l, cs.contains x = true := by
  unfold Lib.trimS Lib.trimLeftS Lib.trimRightS
  rw [dw_nil]
  constructor
  · intro h x hx
    by_cases hn : l.reverse.dropWhile (cs.contains ·) = []
    · exact (dw_nil _).1 hn x (by simpa using hx)
    · exfalso
      have h1 := dw_head (p := fun x => cs.contains x) l.reverse hn
      have h2 := h ((l.reverse.dropWhile (cs.contains ·)).head hn) (by simp)
      simp only [h2] at h1
      simp at h1
  · intro h x hx
    have := List.dropWhile_sublist (cs.contains ·) (l := l.reverse) |>.subset (by simpa using hx)
    exact h x (by simpa using this)
theorem dig_iff (x : UInt8) : digits.data.toList.contains x = decide (48 ≤ x.toNat ∧ x.toNat ≤ 57) := by
  have : ∀ n : Fin 256, digits.data.toList.contains (UInt8.ofNat n.val) = decide (48 ≤ n.val ∧ n.val ≤ 57) := by decide +kernel
  have h := this ⟨x.toNat, x.toNat_lt⟩
  simpa using h
theorem trimB_nil (s : ByteArray) : ((trimB s).toList == (⟨#[]⟩ : ByteArray).toList) = (List.range s.size).all fun i => decide (48 ≤ byteAt s i ∧ byteAt s i ≤ 57) := by
  rw [Bool.eq_iff_iff]
  simp only [beq_iff_eq, List.all_eq_true, List.mem_range, decide_eq_true_eq]
  rw [ByteArray.toList_eq, ByteArray.toList_eq]
  have e0 : (⟨#[]⟩ : ByteArray).data.toList = [] := rfl
  rw [e0]
  unfold trimB
  simp only [List.toList_toArray]
  rw [trimS_nil]
  constructor
  · intro h i hi
    have hi' : i < s.data.toList.length := by rw [← Lib.size_eq]; exact hi
    have := h s.data.toList[i] (List.getElem_mem hi')
    rw [dig_iff] at this
    have e : s[i]? = some s.data.toList[i] := by
      rw [getElem?_pos s i hi]; rfl
    simp only [byteAt, e, Option.getD_some]
    simpa using this
  · intro h x hx
    obtain ⟨i, hi, rfl⟩ := List.getElem_of_mem hx
    have hi' : i < s.size := by rw [Lib.size_eq]; exact hi
    have := h i hi'
    have e : s[i]? = some s.data.toList[i] := by
      rw [getElem?_pos s i hi']; rfl
    simp only [byteAt, e, Option.getD_some] at this
    rw [dig_iff]
    simpa using this
theorem trim_ok {m : AM} (s : ByteArray) (hs : s.size ≤ 1000) : ACall Tryd.prog 61 #[.string s, .string digits] m (Ret (.string (trimB s)) m) := by
  intro base R w args' hbase hm hargs
  have h1 := hargs.1
  have h2 := hargs.2 0 (by simp)
  have h3 := hargs.2 1 (by simp)
  obtain ⟨x, y, rfl⟩ : ∃ x y, args' = #[x, y] := ⟨args'[0]'(by simp at h1; omega), args'[1]'(by simp at h1; omega), by
    apply Array.ext
    · simp at h1; simp; omega
    · intro j a b
      simp at b
      rcases (show j = 0 ∨ j = 1 by omega) with rfl | rfl <;> rfl⟩
  simp at h2 h3
  cases h2
  cases h3
  have key := Any.strings_Trim_laid trimD (by kernel_rfl) s digits w (by omega) (by decide) (ascii_of_all (by decide))
  refine key.mono ?_
  rintro e w' ⟨rfl, hb⟩
  exact ⟨_, _, R, _, rfl, .string _, post_below hm hb, rfl, rfl⟩
/-- The strings of a slice. -/
def Strs (m : AM) (v : Value) (B : Brd) : Prop := ∃ a o, Sl v a o B.length ∧ a < m.length ∧ ∀ y, y < B.length → Rd m a (o + y) (.string (rowOf B y))
theorem Strs.old {m : AM} {v : Value} {B : Brd} (h : Strs m v B) (L : AM) : Strs (m ++ L) v B := by
  obtain ⟨a, o, h1, h2, h3⟩ := h
  exact ⟨a, o, h1, by rw [List.length_append]; omega, fun y hy => (h3 y hy).old L⟩
theorem rowB_trim {n : Nat} {s : ByteArray} (hs : s.size = n) : rowB n s = ((trimB s).toList == (⟨#[]⟩ : ByteArray).toList) := by
  unfold rowB
  rw [trimB_nil]
  simp [hs]
theorem skinB_rows {B : Brd} (h : 1 ≤ B.length ∧ B.length ≤ 48 ∧ 1 ≤ (rowOf B 0).size ∧ (rowOf B 0).size ≤ 48) : skinB B = B.all (rowB (rowOf B 0).size) := by simp [skinB, h]
theorem all_rows {p : ByteArray → Bool} {B : Brd} (h : ∀ y, y < B.length → p (rowOf B y) = true) : B.all p = true := by
  rw [List.all_eq_true]
  intro x hx
  obtain ⟨i, hi, rfl⟩ := List.getElem_of_mem hx
  have := h i hi
  unfold rowOf at this
  rwa [getD_in _ _ hi] at this
theorem not_rows {p : ByteArray → Bool} {B : Brd} {y : Nat} (hy : y < B.length) (h : p (rowOf B y) = false) : B.all p = false := by
  rw [Bool.eq_false_iff]
  intro hc
  rw [List.all_eq_true] at hc
  have := hc (rowOf B y) (by unfold rowOf; rw [getD_in _ _ hy]; exact List.getElem_mem hy)
  rw [h] at this
  cases this
set_option maxRecDepth 100000 in
theorem Valid_ok {m : AM} {sv : Value} {B : Brd} (hs : Strs m sv B) : ACall Tryd.prog 28 #[sv] m (Ret (.bool (skinB B)) m) := by
  obtain ⟨A, O, sl, la, rd⟩ := hs
  refine ACall.start Tryd.func28 rfl rfl ?_
  by_cases h1 : B.length < 1
  · have e : skinB B = false := by simp [skinB]; omega
    (repeat (first | (with_reducible refine AWo.cons ?_) | ((with_reducible refine Step.id ?_); first | ((with_reducible apply Step.gdF); exact rfl; exact rfl; (focus (first | rfl | (simp only [decide_eq_true_eq, decide_eq_false_iff_not, Bool.not_eq_true', Bool.not_eq_false', Bool.not_true, Bool.not_false]; first | assumption | omega)))) | ((with_reducible apply Step.move); exact rfl; exact rfl) | ((with_reducible apply Step.assign); exact rfl; exact rfl) | ((with_reducible apply Step.lss); exact rfl; exact rfl; exact rfl) | ((with_reducible apply Step.len); exact rfl; (focus (assumption)); (focus (decide +kernel)); exact rfl) | ((with_reducible apply Step.pickT); exact rfl; exact rfl; exact rfl; exact rfl; (focus (first | rfl | (simp only [decide_eq_true_eq, decide_eq_false_iff_not, Bool.not_eq_true', Bool.not_eq_false', Bool.not_true, Bool.not_false]; first | assumption | omega))))) | (with_reducible refine AWo.nil ?_) | ((with_reducible apply AW.seq)) | ((with_reducible apply Then.n)) | ((with_reducible apply AW.regL)) | ((with_reducible apply AW.condT); exact rfl; (focus (rfl)))))
    (refine AW.retD (l := [(2, _)]) (by repeat (first | exact trivial | (refine And.intro ⟨rfl, by (exact .bool _)⟩ ?_))) ?_; (repeat (first | refine Then.r ?_ | refine InBlk.r ?_)))
    exact ⟨_, rfl, by rw [e], rfl⟩
  by_cases h2 : 48 < B.length
  · have e : skinB B = false := by simp [skinB]; omega
    (repeat (first | (with_reducible refine AWo.cons ?_) | ((with_reducible refine Step.id ?_); first | ((with_reducible apply Step.gdT); exact rfl; exact rfl; (focus ((simp only [decide_eq_true_eq, decide_eq_false_iff_not, Bool.not_eq_true', Bool.not_eq_false', Bool.not_true, Bool.not_false]; first | assumption | omega)))) | ((with_reducible apply Step.gdF); exact rfl; exact rfl; (focus (first | rfl | (simp only [decide_eq_true_eq, decide_eq_false_iff_not, Bool.not_eq_true', Bool.not_eq_false', Bool.not_true, Bool.not_false]; first | assumption | omega)))) | ((with_reducible apply Step.move); exact rfl; exact rfl) | ((with_reducible apply Step.assign); exact rfl; exact rfl) | ((with_reducible apply Step.lss); exact rfl; exact rfl; exact rfl) | ((with_reducible apply Step.gtr); exact rfl; exact rfl; exact rfl) | ((with_reducible apply Step.len); exact rfl; (focus (assumption)); (focus (decide +kernel)); exact rfl) | ((with_reducible apply Step.pickT); exact rfl; exact rfl; exact rfl; exact rfl; (focus (first | rfl | (simp only [decide_eq_true_eq, decide_eq_false_iff_not, Bool.not_eq_true', Bool.not_eq_false', Bool.not_true, Bool.not_false]; first | assumption | omega)))) | ((with_reducible apply Step.pickF); exact rfl; exact rfl; exact rfl; exact rfl; (focus ((simp only [decide_eq_true_eq, decide_eq_false_iff_not, Bool.not_eq_true', Bool.not_eq_false', Bool.not_true, Bool.not_false]; first | assumption | omega))))) | (with_reducible refine AWo.nil ?_) | ((with_reducible apply AW.seq)) | ((with_reducible apply Then.n)) | ((with_reducible apply AW.regL)) | ((with_reducible apply AW.condT); exact rfl; (focus (rfl)))))
    (refine AW.retD (l := [(2, _)]) (by repeat (first | exact trivial | (refine And.intro ⟨rfl, by (exact .bool _)⟩ ?_))) ?_; (repeat (first | refine Then.r ?_ | refine InBlk.r ?_)))
    exact ⟨_, rfl, by rw [e], rfl⟩
  have r0 := rd 0 (by omega)
  by_cases h3 : (rowOf B 0).size < 1
  · have e : skinB B = false := by simp [skinB]; omega
    (repeat (first | (with_reducible refine AWo.cons ?_) | ((with_reducible refine Step.id ?_); first | ((with_reducible apply Step.gdT); exact rfl; exact rfl; (focus ((simp only [decide_eq_true_eq, decide_eq_false_iff_not, Bool.not_eq_true', Bool.not_eq_false', Bool.not_true, Bool.not_false]; first | assumption | omega)))) | ((with_reducible apply Step.gdF); exact rfl; exact rfl; (focus ((simp only [decide_eq_true_eq, decide_eq_false_iff_not, Bool.not_eq_true', Bool.not_eq_false', Bool.not_true, Bool.not_false]; first | assumption | omega)))) | ((with_reducible apply Step.move); exact rfl; exact rfl) | ((with_reducible apply Step.assign); exact rfl; exact rfl) | ((with_reducible apply Step.load); exact rfl; (focus (decide +kernel)); exact rfl; (focus (exact Rd.old _ (by assumption)))) | ((with_reducible apply Step.ix1 (k := 0)); exact rfl; (focus (assumption)); exact rfl; (focus (decide +kernel)); exact rfl; (focus (omega))) | ((with_reducible apply Step.lenS); exact rfl; exact un9; exact rfl) | ((with_reducible apply Step.lss); exact rfl; exact rfl; exact rfl) | ((with_reducible apply Step.gtr); exact rfl; exact rfl; exact rfl) | ((with_reducible apply Step.len); exact rfl; (focus (assumption)); (focus (decide +kernel)); exact rfl) | ((with_reducible apply Step.pickT); exact rfl; exact rfl; exact rfl; exact rfl; (focus ((simp only [decide_eq_true_eq, decide_eq_false_iff_not, Bool.not_eq_true', Bool.not_eq_false', Bool.not_true, Bool.not_false]; first | assumption | omega)))) | ((with_reducible apply Step.pickF); exact rfl; exact rfl; exact rfl; exact rfl; (focus ((simp only [decide_eq_true_eq, decide_eq_false_iff_not, Bool.not_eq_true', Bool.not_eq_false', Bool.not_true, Bool.not_false]; first | assumption | omega))))) | (with_reducible refine AWo.nil ?_) | ((with_reducible apply AW.seq)) | ((with_reducible apply Then.n)) | ((with_reducible apply AW.regL)) | ((with_reducible apply AW.condT); exact rfl; (focus (rfl)))))
    (refine AW.retD (l := [(2, _)]) (by repeat (first | exact trivial | (refine And.intro ⟨rfl, by (exact .bool _)⟩ ?_))) ?_; (repeat (first | refine Then.r ?_ | refine InBlk.r ?_)))
    exact ⟨_, rfl, by rw [e], rfl⟩
  by_cases h4 : 48 < (rowOf B 0).size
  · have e : skinB B = false := by simp [skinB]; omega
    (repeat (first | (with_reducible refine AWo.cons ?_) | ((with_reducible refine Step.id ?_); first | ((with_reducible apply Step.gdT); exact rfl; exact rfl; (focus ((simp only [decide_eq_true_eq, decide_eq_false_iff_not, Bool.not_eq_true', Bool.not_eq_false', Bool.not_true, Bool.not_false]; first | assumption | omega)))) | ((with_reducible apply Step.move); exact rfl; exact rfl) | ((with_reducible apply Step.assign); exact rfl; exact rfl) | ((with_reducible apply Step.load); exact rfl; (focus (decide +kernel)); exact rfl; (focus (exact Rd.old _ (by assumption)))) | ((with_reducible apply Step.ix1 (k := 0)); exact rfl; (focus (assumption)); exact rfl; (focus (decide +kernel)); exact rfl; (focus (omega))) | ((with_reducible apply Step.lenS); exact rfl; exact un9; exact rfl) | ((with_reducible apply Step.lss); exact rfl; exact rfl; exact rfl) | ((with_reducible apply Step.gtr); exact rfl; exact rfl; exact rfl) | ((with_reducible apply Step.len); exact rfl; (focus (assumption)); (focus (decide +kernel)); exact rfl) | ((with_reducible apply Step.pickF); exact rfl; exact rfl; exact rfl; exact rfl; (focus ((simp only [decide_eq_true_eq, decide_eq_false_iff_not, Bool.not_eq_true', Bool.not_eq_false', Bool.not_true, Bool.not_false]; first | assumption | omega))))) | (with_reducible refine AWo.nil ?_) | ((with_reducible apply AW.seq)) | ((with_reducible apply Then.n)) | ((with_reducible apply AW.regL)) | ((with_reducible apply AW.condT); exact rfl; (focus ((simp only [decide_eq_true_eq, decide_eq_false_iff_not, Bool.not_eq_true', Bool.not_eq_false', Bool.not_true, Bool.not_false]; first | assumption | omega))))))
    (refine AW.retD (l := [(2, _)]) (by repeat (first | exact trivial | (refine And.intro ⟨rfl, by (exact .bool _)⟩ ?_))) ?_; (repeat (first | refine Then.r ?_ | refine InBlk.r ?_)))
    exact ⟨_, rfl, by rw [e], rfl⟩
  have hk := skinB_rows (B := B) (by omega)
  (repeat (first | (with_reducible refine AWo.cons ?_) | ((with_reducible refine Step.id ?_); first | ((with_reducible apply Step.gdT); exact rfl; exact rfl; (focus ((simp only [decide_eq_true_eq, decide_eq_false_iff_not, Bool.not_eq_true', Bool.not_eq_false', Bool.not_true, Bool.not_false]; first | assumption | omega)))) | ((with_reducible apply Step.move); exact rfl; exact rfl) | ((with_reducible apply Step.assign); exact rfl; exact rfl) | ((with_reducible apply Step.load); exact rfl; (focus (decide +kernel)); exact rfl; (focus (exact Rd.old _ (by assumption)))) | ((with_reducible apply Step.ix1 (k := 0)); exact rfl; (focus (assumption)); exact rfl; (focus (decide +kernel)); exact rfl; (focus (omega))) | ((with_reducible apply Step.lenS); exact rfl; exact un9; exact rfl) | ((with_reducible apply Step.lss); exact rfl; exact rfl; exact rfl) | ((with_reducible apply Step.gtr); exact rfl; exact rfl; exact rfl) | ((with_reducible apply Step.len); exact rfl; (focus (assumption)); (focus (decide +kernel)); exact rfl) | ((with_reducible apply Step.pickF); exact rfl; exact rfl; exact rfl; exact rfl; (focus ((simp only [decide_eq_true_eq, decide_eq_false_iff_not, Bool.not_eq_true', Bool.not_eq_false', Bool.not_true, Bool.not_false]; first | assumption | omega))))) | (with_reducible refine AWo.nil ?_) | ((with_reducible apply AW.seq)) | ((with_reducible apply Then.n)) | ((with_reducible apply AW.regL)) | ((with_reducible apply AW.block)) | ((with_reducible apply AW.skip)) | ((with_reducible apply AW.condF); exact rfl; (focus ((simp only [decide_eq_true_eq, decide_eq_false_iff_not, Bool.not_eq_true', Bool.not_eq_false', Bool.not_true, Bool.not_false]; first | assumption | omega))))))
  refine AW.loopT (fun n t L => ∃ k : Nat, n = B.length - k ∧ k ≤ B.length ∧ L = [] ∧ (∀ y, y < k → rowB (rowOf B 0).size (rowOf B y) = true) ∧
    t = [(0, sv), (27, sv), (28, .int .i64 (B.length : Nat)), (29, .int .i64 (k : Nat))])
    ⟨_, _, _, (Or.inl ⟨rfl, (by repeat (first | exact trivial | (refine And.intro rfl ?_)))⟩), 0, rfl, Nat.zero_le _, rfl, fun y hy => by omega, rfl⟩ ?_
  rintro n t L ⟨k, rfl, hkk, rfl, hr, rfl⟩
  rcases Nat.lt_or_ge k B.length with hlt | hge
  · have rk := rd k hlt
    by_cases h5 : (rowOf B k).size = (rowOf B 0).size
    · have hb := rowB_trim h5
      cases h6 : rowB (rowOf B 0).size (rowOf B k) with
      | true =>
        rw [h6] at hb
        have hb' := hb.symm
        (repeat (first | (with_reducible refine AWo.cons ?_) | ((with_reducible refine Step.id ?_); first | ((with_reducible apply Step.gdT); exact rfl; exact rfl; (focus ((simp only [decide_eq_true_eq, decide_eq_false_iff_not, Bool.not_eq_true', Bool.not_eq_false', Bool.not_true, Bool.not_false]; first | assumption | omega)))) | ((with_reducible apply Step.move); exact rfl; exact rfl) | ((with_reducible apply Step.assign); exact rfl; exact rfl) | ((with_reducible apply Step.load); exact rfl; (focus (decide +kernel)); exact rfl; (focus (exact Rd.old _ (by assumption)))) | ((with_reducible apply Step.ix1); exact rfl; (focus (assumption)); exact rfl; (focus (decide +kernel)); exact rfl; (focus (omega))) | ((with_reducible apply Step.ix1 (k := 0)); exact rfl; (focus (assumption)); exact rfl; (focus (decide +kernel)); exact rfl; (focus (omega))) | ((with_reducible apply Step.lenS); exact rfl; exact un9; exact rfl) | ((with_reducible apply Step.neqS); exact rfl; exact rfl; exact un9; exact rfl) | ((with_reducible apply Step.add); exact rfl; exact rfl; (focus (omega)); exact rfl) | ((with_reducible apply Step.lss); exact rfl; exact rfl; exact rfl) | ((with_reducible apply Step.neq); exact rfl; exact rfl; exact rfl) | ((with_reducible apply Step.pickF); exact rfl; exact rfl; exact rfl; exact rfl; (focus ((simp only [decide_eq_true_eq, decide_eq_false_iff_not, Bool.not_eq_true', Bool.not_eq_false', Bool.not_true, Bool.not_false]; first | assumption | omega)))) | ((with_reducible apply Step.callR fit); exact rfl; exact Tryd.func61; exact rfl; exact rfl; exact (trim_ok (rowOf B k) (by omega)))) | (with_reducible refine AWo.nil ?_) | ((with_reducible apply AW.seq)) | ((with_reducible apply Then.n)) | ((with_reducible apply AW.regL)) | ((with_reducible apply AW.block)) | ((with_reducible apply InBlk.n)) | ((with_reducible apply AW.skip)) | ((with_reducible apply AW.condT); exact rfl; (focus ((simp only [decide_eq_true_eq, decide_eq_false_iff_not, Bool.not_eq_true', Bool.not_eq_false', Bool.not_true, Bool.not_false]; first | assumption | omega)))) | ((with_reducible apply AW.condF); exact rfl; (focus ((simp only [decide_eq_true_eq, decide_eq_false_iff_not, Bool.not_eq_true', Bool.not_eq_false', Bool.not_true, Bool.not_false]; first | assumption | omega))))))
        exact ⟨_, _, _, by omega, (Or.inl ⟨rfl, (by repeat (first | exact trivial | (refine And.intro rfl ?_)))⟩), k + 1, rfl, by omega, rfl, fun y hy => by
          rcases Nat.lt_succ_iff_lt_or_eq.1 hy with h | h
          · exact hr y h
          · rw [h]; exact h6, rfl⟩
      | false =>
        rw [h6] at hb
        have hb' := hb.symm
        (repeat (first | (with_reducible refine AWo.cons ?_) | ((with_reducible refine Step.id ?_); first | ((with_reducible apply Step.gdT); exact rfl; exact rfl; (focus ((simp only [decide_eq_true_eq, decide_eq_false_iff_not, Bool.not_eq_true', Bool.not_eq_false', Bool.not_true, Bool.not_false]; first | assumption | omega)))) | ((with_reducible apply Step.move); exact rfl; exact rfl) | ((with_reducible apply Step.assign); exact rfl; exact rfl) | ((with_reducible apply Step.load); exact rfl; (focus (decide +kernel)); exact rfl; (focus (exact Rd.old _ (by assumption)))) | ((with_reducible apply Step.ix1); exact rfl; (focus (assumption)); exact rfl; (focus (decide +kernel)); exact rfl; (focus (omega))) | ((with_reducible apply Step.ix1 (k := 0)); exact rfl; (focus (assumption)); exact rfl; (focus (decide +kernel)); exact rfl; (focus (omega))) | ((with_reducible apply Step.lenS); exact rfl; exact un9; exact rfl) | ((with_reducible apply Step.neqS); exact rfl; exact rfl; exact un9; exact rfl) | ((with_reducible apply Step.lss); exact rfl; exact rfl; exact rfl) | ((with_reducible apply Step.neq); exact rfl; exact rfl; exact rfl) | ((with_reducible apply Step.pickF); exact rfl; exact rfl; exact rfl; exact rfl; (focus ((simp only [decide_eq_true_eq, decide_eq_false_iff_not, Bool.not_eq_true', Bool.not_eq_false', Bool.not_true, Bool.not_false]; first | assumption | omega)))) | ((with_reducible apply Step.callR fit); exact rfl; exact Tryd.func61; exact rfl; exact rfl; exact (trim_ok (rowOf B k) (by omega)))) | (with_reducible refine AWo.nil ?_) | ((with_reducible apply AW.seq)) | ((with_reducible apply Then.n)) | ((with_reducible apply AW.regL)) | ((with_reducible apply AW.block)) | ((with_reducible apply AW.skip)) | ((with_reducible apply AW.condT); exact rfl; (focus ((simp only [decide_eq_true_eq, decide_eq_false_iff_not, Bool.not_eq_true', Bool.not_eq_false', Bool.not_true, Bool.not_false]; first | assumption | omega))))))
        (refine AW.retD (l := [(2, _)]) (by repeat (first | exact trivial | (refine And.intro ⟨rfl, by (exact .bool _)⟩ ?_))) ?_; (repeat (first | refine Then.r ?_ | refine InBlk.r ?_)))
        exact ⟨_, rfl, by rw [hk, not_rows hlt h6], rfl⟩
    · (repeat (first | (with_reducible refine AWo.cons ?_) | ((with_reducible refine Step.id ?_); first | ((with_reducible apply Step.gdF); exact rfl; exact rfl; (focus ((simp only [decide_eq_true_eq, decide_eq_false_iff_not, Bool.not_eq_true', Bool.not_eq_false', Bool.not_true, Bool.not_false]; first | assumption | omega)))) | ((with_reducible apply Step.move); exact rfl; exact rfl) | ((with_reducible apply Step.assign); exact rfl; exact rfl) | ((with_reducible apply Step.load); exact rfl; (focus (decide +kernel)); exact rfl; (focus (exact Rd.old _ (by assumption)))) | ((with_reducible apply Step.ix1); exact rfl; (focus (assumption)); exact rfl; (focus (decide +kernel)); exact rfl; (focus (omega))) | ((with_reducible apply Step.ix1 (k := 0)); exact rfl; (focus (assumption)); exact rfl; (focus (decide +kernel)); exact rfl; (focus (omega))) | ((with_reducible apply Step.lenS); exact rfl; exact un9; exact rfl) | ((with_reducible apply Step.lss); exact rfl; exact rfl; exact rfl) | ((with_reducible apply Step.neq); exact rfl; exact rfl; exact rfl) | ((with_reducible apply Step.pickT); exact rfl; exact rfl; exact rfl; exact rfl; (focus ((simp only [decide_eq_true_eq, decide_eq_false_iff_not, Bool.not_eq_true', Bool.not_eq_false', Bool.not_true, Bool.not_false]; first | assumption | omega))))) | (with_reducible refine AWo.nil ?_) | ((with_reducible apply AW.seq)) | ((with_reducible apply Then.n)) | ((with_reducible apply AW.regL)) | ((with_reducible apply AW.block)) | ((with_reducible apply AW.skip)) | ((with_reducible apply AW.condT); exact rfl; (focus (first | rfl | (simp only [decide_eq_true_eq, decide_eq_false_iff_not, Bool.not_eq_true', Bool.not_eq_false', Bool.not_true, Bool.not_false]; first | assumption | omega))))))
      (refine AW.retD (l := [(2, _)]) (by repeat (first | exact trivial | (refine And.intro ⟨rfl, by (exact .bool _)⟩ ?_))) ?_; (repeat (first | refine Then.r ?_ | refine InBlk.r ?_)))
      exact ⟨_, rfl, by rw [hk, not_rows hlt (by simp [rowB, h5])], rfl⟩
  · obtain rfl : k = B.length := by omega
    (repeat (first | (with_reducible refine AWo.cons ?_) | ((with_reducible refine Step.id ?_); first | ((with_reducible apply Step.assign); exact rfl; exact rfl) | ((with_reducible apply Step.lss); exact rfl; exact rfl; exact rfl)) | (with_reducible refine AWo.nil ?_) | ((with_reducible apply AW.seq)) | ((with_reducible apply Then.n)) | ((with_reducible apply AW.regL)) | ((with_reducible apply AW.exit)) | ((with_reducible apply InBlk.hit)) | ((with_reducible apply Then.e)) | ((with_reducible apply AW.condF); exact rfl; (focus ((simp only [decide_eq_true_eq, decide_eq_false_iff_not, Bool.not_eq_true', Bool.not_eq_false', Bool.not_true, Bool.not_false]; first | assumption | omega))))))
    (refine AW.retD (l := [(2, _)]) (by repeat (first | exact trivial | (refine And.intro ⟨rfl, by (exact .bool _)⟩ ?_))) ?_; (repeat (first | refine Then.r ?_ | refine InBlk.r ?_)))
    exact ⟨_, rfl, by rw [hk, all_rows hr], rfl⟩
end Go.Proofs.YtedbjmgchfgabaaDoor.Abs
namespace Go.Proofs.YtedbjmgchfgabaaDoor.Abs
set_option linter.unusedSimpArgs false
set_option linter.unusedVariables false
open Go.RowKit
open Go.Proofs.YtedbjmgchfgabaaDoor.Sim
section
variable {P : Program} {nt : Nat} {ops : Array Oper} {t : Fm} {m : AM} {K : Fm → AM → Prop} {d T : Nat} {p : String} {af : Array Edge}
theorem Step.appOG {x y : Operand} {X Y e e' : TypeId} {by_ : Nat} {z : Array Value} {s r n : Nat} {c : List Value} {new : Value} (hx : evo t x = some (.slice (some ⟨s, 0, none⟩) n n)) (hy : evo t y = some (.slice (some ⟨r, 0, none⟩) 1 1)) (hE : elemB P X = some (e, 1, by_, z)) (hY : P.underlying Y = some (.slice e'))
    (hq : m[s]? = some (some { cells := c })) (hc : c.length = n) (hr : m[r]? = some (some { cells := [new] })) (hn1 : new.oneCell' = true) (hb : (n + 1) * by_ ≤ 1099511627776 ∧ n + 1 ≤ 1099511627776) (hlt : Nat.blt d nt = true)
    (hK : K (put t d (.slice (some ⟨m.length, 0, none⟩) (n + 1) (n + 1))) (m ++ [some { cells := c ++ [new], kind := .grow, size := 1 }])) :
    Step P nt ops ⟨some d, .call ⟨.builtin .append, #[x, y], #[X, Y]⟩, T, p, af, none⟩ t m K := by
  have := Step.appO (P := P) (nt := nt) (ops := ops) (T := T) (p := p) (af := af) (M := []) (L := m) (k := m.length) (q := s) (r := r) (K := K) rfl (by simpa using hx) (by simpa using hy) hE hY hq hc hr hn1 hb hlt rfl (by simpa using hK)
  simpa using this
end
theorem aload_cell {P : Program} {m : AM} {i n : Nat} {ty : TypeId} {c : List Value} (hg : aggB P ty = some true) (hn : szB P ty = some n) (h1 : RdL m i 0 c) (h3 : c.length = n) (hn1 : Nat.blt 0 n = true) : aload P m ty (.pointer (some ⟨i, 0, none⟩)) = some (.agg c.toArray) := by
  obtain ⟨b, k1, k2⟩ := h1
  simp at hn1
  have hlast := k2 (n - 1) c[n - 1] (List.getElem?_eq_getElem (by omega))
  have hlen := (List.getElem?_eq_some_iff.1 hlast).1
  have hc : (b.cells.drop 0).take n = c := by
    apply List.ext_getElem?
    intro j
    by_cases hj : j < n
    · rw [List.getElem?_take, if_pos hj, List.getElem?_drop, k2 j c[j] (List.getElem?_eq_getElem (by omega)), List.getElem?_eq_getElem (by omega)]
    · rw [List.getElem?_take, if_neg hj, List.getElem?_eq_none (by omega)]
  have h0 : 0 + n ≤ b.cells.length := by omega
  simp only [aload, k1, hg, hn]; rw [if_pos h0, hc]
theorem ares_cell2 {P : Program} {fn : Func} {t : Fm} {m : AM} {a1 a2 i1 i2 : Nat} {n1 n2 : Nat} {t1 t2 : TypeId} {c1 c2 : List Value} (hr : fn.results = #[.cell a1 t1, .cell a2 t2]) (e1 : t a1 = some (.pointer (some ⟨i1, 0, none⟩))) (e2 : t a2 = some (.pointer (some ⟨i2, 0, none⟩)))
    (g1 : aggB P t1 = some true) (s1 : szB P t1 = some n1) (l1 : RdL m i1 0 c1) (k1 : c1.length = n1) (p1 : Nat.blt 0 n1 = true)
    (g2 : aggB P t2 = some true) (s2 : szB P t2 = some n2) (l2 : RdL m i2 0 c2) (k2 : c2.length = n2) (p2 : Nat.blt 0 n2 = true) :
    ares P fn t m = some (.tuple #[.agg c1.toArray, .agg c2.toArray]) := by
  have hL : aresL P t m fn.results.toList = some [.agg c1.toArray, .agg c2.toArray] := by rw [hr]; simp only [aresL, ares1, e1, e2, aload_cell g1 s1 l1 k1 p1, aload_cell g2 s2 l2 k2 p2]
  unfold ares
  rw [hL]
theorem set_high {m0 N : AM} {a : Nat} (h : m0.length ≤ a) (x : Option Blk) : ∃ N', (m0 ++ N).set a x = m0 ++ N' := ⟨N.set (a - m0.length) x, by rw [List.set_append_right _ _ h]⟩
end Go.Proofs.YtedbjmgchfgabaaDoor.Abs
