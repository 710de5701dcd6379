/- slices: the insertion sort of a row of ints by a comparison. -/
import Derived.Test.YtmomjannlnafcaaS0
import Derived.Test.YtmomjannlnafcaaB1
namespace Go.Proofs.Ytmomjannlnafcaa.Abs
set_option linter.unusedSimpArgs false
set_option linter.unusedVariables false
open Go.RowKit
open Go.Proofs.Ytmomjannlnafcaa.Sim
open Go.Proofs
theorem un3i : Try.prog.underlying 3 = some (.int .i64) := by kernel_rfl
theorem un46u : Try.prog.underlying 46 = some (.int .u64) := by kernel_rfl
/-- A comparison that reads the row's memory, whatever the row is. -/
structure CmpOk (m : AM) (r s : Nat) (kd : Kind) (c : Int → Int → Int) (p : Int → Prop) (g : FuncId) (cap : Array Value) : Prop where
  hr : r < m.length
  hkd : kd.solid = true
  call : ∀ l x y, p x → p y → ACall Try.prog g (#[] ++ #[.int .i64 x, .int .i64 y] ++ cap) (St m r kd s l) (Ret (.int .i64 (c x y)) (St m r kd s l))
section
variable {m : AM} {r s : Nat} {kd : Kind} {le : Int → Int → Bool} {c : Int → Int → Int} {p : Int → Prop} {g : FuncId} {cap : Array Value} {fn : Func} {bd : Code}
/-- Of two places the comparison answers as the order does. -/
def Cross (le : Int → Int → Bool) (c : Int → Int → Int) (x y : Int) : Prop := c y x < 0 ↔ le x y = false
-- function 128
set_option maxRecDepth 100000 in
theorem f128_ok (hC : CmpOk m r s kd c p g cap) (hT : TO le) (hf : Try.prog.funcs[g]? = some fn) (hb : fn.body = some bd) (a b n : Nat) (pre A post : List Int) (ha : pre.length = a) (hab : a + A.length = b) (hn : (pre ++ A ++ post).length = n) (hlim : n ≤ 1000000)
    (hp : ∀ x ∈ A, p x) (hX : A.Pairwise (Cross le c)) :
    ACall Try.prog 128 #[.slice (some ⟨r, 0, none⟩) n n, .int .i64 (a : Nat), .int .i64 (b : Nat), .func (.func g) #[] cap] (St m r kd s (pre ++ A ++ post)) (Ret (.tuple #[]) (St m r kd s (pre ++ ms le A ++ post))) := by
  have hr := hC.hr; have hkd := hC.hkd
  have hlen : pre.length + A.length + post.length = n := by rw [← hn]; simp; omega
  refine ACall.intro Try.func128 rfl (Nat.le_of_ble_eq_true rfl) ?_
  (repeat (first | (with_reducible refine AWo.cons ?_) | ((with_reducible refine Step.id ?_); first | ((with_reducible apply Step.move); exact rfl; exact rfl) | ((with_reducible apply Step.assign); exact rfl; exact rfl) | ((with_reducible apply Step.add); exact rfl; exact rfl; (focus (omega)); exact rfl)) | (with_reducible refine AWo.nil ?_) | ((with_reducible apply AW.seq)) | ((with_reducible apply Then.n)) | ((with_reducible apply AW.regL)) | ((with_reducible apply AW.block))))
  refine AW.loopW (fun k t M => ∃ q, k = A.length - q ∧ 1 ≤ q ∧ q ≤ max 1 A.length ∧ t = fr [(0, .slice (some ⟨r, 0, none⟩) n n), (1, .int .i64 (a : Nat)), (2, .int .i64 (b : Nat)), (3, .func (.func g) #[] cap), (8, .int .i64 ((a + q : Nat) : Int))] ∧
    M = St m r kd s (pre ++ ms le (A.take q) ++ (A.drop q ++ post))) ⟨_, _, (by repeat (first | exact trivial | (refine And.intro rfl ?_))), 1, rfl, Nat.le_refl _, by omega, rfl, ?_⟩ ?_
  · cases A with
    | nil => simp [ms]
    | cons x l => simp [ms]
  rintro k t M ⟨q, rfl, hq1, hq, rfl, rfl⟩
  rcases Nat.lt_or_ge q A.length with hlt | hge
  · obtain ⟨x, hx⟩ : ∃ x, x = A.getD q 0 := ⟨_, rfl⟩
    have hdrop : A.drop q = x :: A.drop (q + 1) := by
      rw [List.drop_eq_getElem_cons hlt, hx]; simp [hlt]
    have htake : A.take (q + 1) = A.take q ++ [x] := by
      rw [List.take_succ_eq_append_getElem hlt, hx]; simp [hlt]
    have hxA : x ∈ A := by rw [hx]; simp [hlt]
    have hcr : ∀ z ∈ A.take q, c x z < 0 ↔ le z x = false := fun z hz => by
      rw [← List.take_append_drop q A, hdrop] at hX
      exact (List.pairwise_append.1 hX).2.2 z hz x (by simp)
    have hmem : ∀ z ∈ A.take q, z ∈ A := fun z hz => List.mem_of_mem_take hz
    have hsl : (ms le (A.take q)).length = q := by rw [ms_len]; simp; omega
    rw [hdrop]
    generalize hR : A.drop (q + 1) = R
    have hRl : R.length = A.length - (q + 1) := by rw [← hR]; simp
    have hgoal : ms le (A.take q ++ [x]) = ms le (A.take (q + 1)) := by rw [htake]
    generalize hS : A.take q = S at *
    have hSl : S.length = q := by rw [← hS]; simp; omega
    (repeat (first | (with_reducible refine AWo.cons ?_) | ((with_reducible refine Step.id ?_); first | ((with_reducible apply Step.move); exact rfl; exact rfl) | ((with_reducible apply Step.assign); exact rfl; exact rfl) | ((with_reducible apply Step.lss); exact rfl; exact rfl; exact rfl)) | (with_reducible refine AWo.nil ?_) | ((with_reducible apply AW.seq)) | ((with_reducible apply Then.n)) | ((with_reducible apply AW.regL)) | ((with_reducible apply AW.block)) | ((with_reducible apply AW.skip)) | ((with_reducible apply AW.condT); exact rfl; (focus ((simp only [decide_eq_true_eq, decide_eq_false_iff_not, Bool.not_eq_true', Bool.not_eq_false', Bool.not_true, Bool.not_false]; first | assumption | omega))))))
    refine AW.loopW (fun k t M => ∃ (S1 S2 : List Int) (j : Nat), k = S1.length ∧ j = a + S1.length ∧ ms le S = S1 ++ S2 ∧ (∀ z ∈ S2, le x z = true) ∧ t = fr [(0, .slice (some ⟨r, 0, none⟩) n n), (1, .int .i64 (a : Nat)), (2, .int .i64 (b : Nat)), (3, .func (.func g) #[] cap), (8, .int .i64 ((a + q : Nat) : Int)), (9, .int .i64 ((j : Nat) : Int))] ∧
      M = St m r kd s (pre ++ S1 ++ x :: S2 ++ (R ++ post))) ⟨_, _, (by repeat (first | exact trivial | (refine And.intro rfl ?_))), ms le S, [], a + q, rfl, by rw [hsl], by simp, by simp, rfl, ?_⟩ ?_
    · have hq0 : ms le S ++ x :: R ++ post = ms le S ++ [] ++ x :: R ++ post := by simp
      simp
    rintro k t M ⟨S1, S2, j, rfl, rfl, hms, hS2, rfl, rfl⟩
    have hl2 : S1.length + S2.length = q := by rw [← List.length_append, ← hms, hsl]
    rcases List.eq_nil_or_concat S1 with rfl | ⟨S1', z, rfl⟩
    · (repeat (first | (with_reducible refine AWo.cons ?_) | ((with_reducible refine Step.id ?_); first | ((with_reducible apply Step.gdF); exact rfl; exact rfl; (focus ((simp; done)))) | ((with_reducible apply Step.move); exact rfl; exact rfl) | ((with_reducible apply Step.assign); exact rfl; exact rfl) | ((with_reducible apply Step.add); exact rfl; exact rfl; (focus (omega)); exact rfl) | ((with_reducible apply Step.gtr); exact rfl; exact rfl; exact rfl) | ((with_reducible apply Step.pickF); exact rfl; exact rfl; exact rfl; exact rfl; (focus ((simp; done))))) | (with_reducible refine AWo.nil ?_) | ((with_reducible apply AW.seq)) | ((with_reducible apply Then.n)) | ((with_reducible apply AW.regL)) | ((with_reducible apply AW.drawL fit); (focus (decide +kernel))) | ((with_reducible apply AW.exit)) | ((with_reducible apply InBlk.n)) | ((with_reducible apply InBlk.hit)) | ((with_reducible apply Then.e)) | ((with_reducible apply AW.condF); exact rfl; (focus (rfl)))))
      refine ⟨_, _, ?_, (by repeat (first | exact trivial | (refine And.intro rfl ?_))), q + 1, rfl, by omega, by omega, rfl, ?_⟩
      · omega
      · have := ms_one (l := S) hT (S1 := []) (S2 := S2) (by rw [← hms]; exact ms_srt hT) (by simp) hS2 (by rw [← hms]; exact ms_perm)
        rw [← hgoal, this, hR]
        simp
    · have hz : z ∈ S := by rw [← ms_mem (le := le), hms]; simp
      have hcz := hcr z hz
      simp only [List.concat_eq_append] at hms hl2 ⊢
      have e1 : pre ++ (S1' ++ [z]) ++ x :: S2 ++ (R ++ post) = (pre ++ S1') ++ z :: x :: (S2 ++ (R ++ post)) := by simp
      rw [e1]
      have hl3 : S1'.length + 1 + S2.length = q := by simpa using hl2
      have hsw := swp_adj (p := pre ++ S1') (q := S2 ++ (R ++ post)) (x := z) (y := x) (i := a + S1'.length) (by simp [ha])
      have hg1 : ((pre ++ S1') ++ z :: x :: (S2 ++ (R ++ post))).getD (a + S1'.length) 0 = z := by rw [getD_r (j := 0) (by simp [ha])]; simp
      have hg2 : ((pre ++ S1') ++ z :: x :: (S2 ++ (R ++ post))).getD (a + S1'.length + 1) 0 = x := by rw [getD_r (j := 1) (by simp only [List.length_append]; omega)]; simp
      have hll : ((pre ++ S1') ++ z :: x :: (S2 ++ (R ++ post))).length = n := by simp only [List.length_append, List.length_cons]; omega
      have hlen1 : (S1' ++ [z]).length = S1'.length + 1 := by simp
      generalize hrow : ((pre ++ S1') ++ z :: x :: (S2 ++ (R ++ post))) = row at *
      rw [hlen1]
      have r1 : Rd (St m r kd s row) r (a + S1'.length) (.int .i64 z) := by rw [← hg1]; exact St.rd hr (by omega)
      have r2 : Rd (St m r kd s row) r (a + S1'.length + 1) (.int .i64 x) := by rw [← hg2]; exact St.rd hr (by omega)
      have e2 : ((a + (S1'.length + 1) : Nat) : Int) - 1 = ((a + S1'.length : Nat) : Int) := by omega
      have hc := hC.call row x z (hp x hxA) (hp z (hmem z hz))
      by_cases hlt2 : c x z < 0
      · (repeat (first | (with_reducible refine AWo.cons ?_) | ((with_reducible refine Step.id ?_); first | ((with_reducible apply Step.gdT); exact rfl; exact rfl; (focus ((simp only [decide_eq_true_eq, decide_eq_false_iff_not, Bool.not_eq_true', Bool.not_eq_false', Bool.not_true, Bool.not_false]; first | assumption | omega)))) | ((with_reducible apply Step.move); exact rfl; exact rfl) | ((with_reducible apply Step.assign); exact rfl; exact rfl) | ((with_reducible apply Step.load); exact rfl; (focus (decide +kernel)); exact rfl; (focus (assumption))) | ((with_reducible apply Step.ix1z); exact rfl; (focus (exact Sl.mk (by omega))); exact rfl; (focus (decide +kernel)); exact rfl; (focus (omega))) | ((with_reducible apply Step.subE); exact rfl; exact rfl; (focus (assumption)); (focus (omega)); exact rfl) | ((with_reducible apply Step.lss); exact rfl; exact rfl; exact rfl) | ((with_reducible apply Step.gtr); exact rfl; exact rfl; exact rfl) | ((with_reducible apply Step.pickT); exact rfl; exact rfl; exact rfl; exact rfl; (focus ((simp only [decide_eq_true_eq, decide_eq_false_iff_not, Bool.not_eq_true', Bool.not_eq_false', Bool.not_true, Bool.not_false]; first | assumption | omega)))) | ((with_reducible apply Step.callV fit); exact rfl; exact rfl; exact hf; exact hb; exact rfl; exact (hc)) | ((with_reducible apply Step.storeR); exact rfl; exact rfl; (focus (decide +kernel)); exact hr; exact hkd; (focus (first | omega | (simp [swp, ms_len]; omega))); exact rfl)) | (with_reducible refine AWo.nil ?_) | ((with_reducible apply AW.seq)) | ((with_reducible apply Then.n)) | ((with_reducible apply AW.regL)) | ((with_reducible apply AW.block)) | ((with_reducible apply AW.drawL fit); (focus (decide +kernel))) | ((with_reducible apply InBlk.n)) | ((with_reducible apply AW.skip)) | ((with_reducible apply AW.condT); exact rfl; (focus ((simp only [decide_eq_true_eq, decide_eq_false_iff_not, Bool.not_eq_true', Bool.not_eq_false', Bool.not_true, Bool.not_false]; first | assumption | omega))))))
        have hxz : le x z = true := hT.of_not ((hcr z hz).1 hlt2)
        refine ⟨_, _, ?_, (by repeat (first | exact trivial | (refine And.intro rfl ?_))), S1', z :: S2, a + S1'.length, rfl, rfl, by rw [hms]; simp, fun y hy => ?_, rfl, ?_⟩
        · omega
        · rcases List.mem_cons.1 hy with rfl | hy
          · exact hxz
          · exact hS2 y hy
        · have : (row.set (a + (S1'.length + 1)) z).set (a + S1'.length) x = swp row (a + S1'.length) (a + S1'.length + 1) := by
            rw [swp_comm _ _ _ (by omega), swp, hg1, hg2]; rfl
          rw [this, hsw]
          simp
      · (repeat (first | (with_reducible refine AWo.cons ?_) | ((with_reducible refine Step.id ?_); first | ((with_reducible apply Step.gdT); exact rfl; exact rfl; (focus ((simp only [decide_eq_true_eq, decide_eq_false_iff_not, Bool.not_eq_true', Bool.not_eq_false', Bool.not_true, Bool.not_false]; first | assumption | omega)))) | ((with_reducible apply Step.move); exact rfl; exact rfl) | ((with_reducible apply Step.assign); exact rfl; exact rfl) | ((with_reducible apply Step.load); exact rfl; (focus (decide +kernel)); exact rfl; (focus (assumption))) | ((with_reducible apply Step.ix1z); exact rfl; (focus (exact Sl.mk (by omega))); exact rfl; (focus (decide +kernel)); exact rfl; (focus (omega))) | ((with_reducible apply Step.subE); exact rfl; exact rfl; (focus (assumption)); (focus (omega)); exact rfl) | ((with_reducible apply Step.add); exact rfl; exact rfl; (focus (omega)); exact rfl) | ((with_reducible apply Step.lss); exact rfl; exact rfl; exact rfl) | ((with_reducible apply Step.gtr); exact rfl; exact rfl; exact rfl) | ((with_reducible apply Step.pickT); exact rfl; exact rfl; exact rfl; exact rfl; (focus ((simp only [decide_eq_true_eq, decide_eq_false_iff_not, Bool.not_eq_true', Bool.not_eq_false', Bool.not_true, Bool.not_false]; first | assumption | omega)))) | ((with_reducible apply Step.callV fit); exact rfl; exact rfl; exact hf; exact hb; exact rfl; exact (hc))) | (with_reducible refine AWo.nil ?_) | ((with_reducible apply AW.seq)) | ((with_reducible apply Then.n)) | ((with_reducible apply AW.regL)) | ((with_reducible apply AW.drawL fit); (focus (decide +kernel))) | ((with_reducible apply AW.exit)) | ((with_reducible apply InBlk.n)) | ((with_reducible apply InBlk.hit)) | ((with_reducible apply Then.e)) | ((with_reducible apply AW.condF); exact rfl; (focus ((simp only [decide_eq_true_eq, decide_eq_false_iff_not, Bool.not_eq_true', Bool.not_eq_false', Bool.not_true, Bool.not_false]; first | assumption | omega))))))
        have hzx : le z x = true := by
          cases hq : le z x with
          | true => rfl
          | false => exact absurd ((hcr z hz).2 hq) hlt2
        refine ⟨_, _, ?_, (by repeat (first | exact trivial | (refine And.intro rfl ?_))), q + 1, rfl, by omega, by omega, rfl, ?_⟩
        · omega
        · have hs := ms_srt (l := S) hT
          rw [hms] at hs
          have := ms_one (l := S) hT hs (fun y hy => by
            rcases List.mem_append.1 hy with hy | hy
            · exact hT.tr _ _ _ ((List.pairwise_append.1 (List.pairwise_append.1 hs).1).2.2 y hy z (by simp)) hzx
            · simp at hy; subst hy; exact hzx) hS2 (by rw [← hms]; exact ms_perm)
          rw [← hgoal, this, hR, ← hrow]
          simp
  · (repeat (first | (with_reducible refine AWo.cons ?_) | ((with_reducible refine Step.id ?_); first | ((with_reducible apply Step.move); exact rfl; exact rfl) | ((with_reducible apply Step.lss); exact rfl; exact rfl; exact rfl)) | (with_reducible refine AWo.nil ?_) | ((with_reducible apply AW.seq)) | ((with_reducible apply Then.n)) | ((with_reducible apply AW.regL)) | ((with_reducible apply AW.exit)) | ((with_reducible apply InBlk.hit)) | ((with_reducible apply Then.e)) | ((with_reducible apply AW.condF); exact rfl; (focus ((simp only [decide_eq_true_eq, decide_eq_false_iff_not, Bool.not_eq_true', Bool.not_eq_false', Bool.not_true, Bool.not_false]; first | assumption | omega))))))
    refine ⟨_, rfl, rfl, ?_⟩
    rw [List.take_of_length_le (by omega), List.drop_eq_nil_of_le (by omega)]
    simp
end
end Go.Proofs.Ytmomjannlnafcaa.Abs
