/- slices.SortStableFunc over at most 40 ints. -/
import Derived.Test.YtmomjannlnafcaaS4
namespace Go.Proofs.Ytmomjannlnafcaa.Abs
set_option linter.unusedSimpArgs false
set_option linter.unusedVariables false
open Go.RowKit
open Go.Proofs.Ytmomjannlnafcaa.Sim
open Go.Proofs
section
variable {m : AM} {r s : Nat} {kd : Kind} {le : Int → Int → Bool} {c : Int → Int → Int} {p : Int → Prop} {g : FuncId} {cap : Array Value} {fn : Func} {bd : Code}
theorem ms_nil : ms le [] = [] := by simp [ms]
-- function 122
set_option maxHeartbeats 4000000 in
set_option maxRecDepth 100000 in
theorem f122_ok (hC : CmpOk m r s kd c p g cap) (hT : TO le) (hf : Try.prog.funcs[g]? = some fn) (hb : fn.body = some bd) (n : Nat) (l : List Int) (hl : l.length = n) (hn : n ≤ 40) (hp : ∀ x ∈ l, p x) (hX : l.Pairwise (Cross le c)) :
    ACall Try.prog 122 #[.slice (some ⟨r, 0, none⟩) n n, .int .i64 (n : Nat), .func (.func g) #[] cap] (St m r kd s l) (Ret (.tuple #[]) (St m r kd s (ms le l))) := by
  have hr := hC.hr; have hkd := hC.hkd
  obtain ⟨T, hT'⟩ : ∃ T, T = l.take 20 := ⟨_, rfl⟩
  obtain ⟨D, hD'⟩ : ∃ D, D = l.drop 20 := ⟨_, rfl⟩
  have hTD : l = T ++ D := by rw [hT', hD', List.take_append_drop]
  have lT : T.length = min 20 n := by rw [hT']; simp; omega
  have lD : D.length = n - 20 := by rw [hD']; simp; omega
  clear hT' hD'
  subst hTD
  rw [List.pairwise_append] at hX
  obtain ⟨xT, xD, xTD⟩ := hX
  have pT : ∀ x ∈ T, p x := fun x hx => hp x (by simp [hx])
  have pD : ∀ x ∈ D, p x := fun x hx => hp x (by simp [hx])
  have i1 : 20 ≤ n → ACall Try.prog 128 #[.slice (some ⟨r, 0, none⟩) n n, .int .i64 ((0 : Nat) : Int), .int .i64 ((20 : Nat) : Int), .func (.func g) #[] cap] (St m r kd s (T ++ D)) (Ret (.tuple #[]) (St m r kd s (ms le T ++ D))) := fun h =>
    f128_ok hC hT hf hb 0 20 n [] T D rfl (by omega) hl (by omega) pT xT
  have i2 : n < 20 → ACall Try.prog 128 #[.slice (some ⟨r, 0, none⟩) n n, .int .i64 ((0 : Nat) : Int), .int .i64 (n : Nat), .func (.func g) #[] cap] (St m r kd s (T ++ D)) (Ret (.tuple #[]) (St m r kd s (ms le T ++ D))) := fun h =>
    f128_ok hC hT hf hb 0 n n [] T D rfl (by omega) hl (by omega) pT xT
  have i3 : 20 ≤ n → ACall Try.prog 128 #[.slice (some ⟨r, 0, none⟩) n n, .int .i64 ((20 : Nat) : Int), .int .i64 (n : Nat), .func (.func g) #[] cap] (St m r kd s (ms le T ++ D)) (Ret (.tuple #[]) (St m r kd s (ms le T ++ ms le D))) := fun h => by
    have := f128_ok hC hT hf hb 20 n n (ms le T) D [] (by rw [ms_len]; omega) (by omega) (by simp only [List.length_append, ms_len, List.length_nil]; omega) (by omega) pD xD
    simpa only [List.append_nil] using this
  have i4 : n = 40 → ACall Try.prog 128 #[.slice (some ⟨r, 0, none⟩) n n, .int .i64 ((40 : Nat) : Int), .int .i64 (n : Nat), .func (.func g) #[] cap] (St m r kd s (ms le T ++ ms le D)) (Ret (.tuple #[]) (St m r kd s (ms le T ++ ms le D))) := fun h => by
    have := f128_ok (le := le) hC hT hf hb 40 n n (ms le T ++ ms le D) [] [] (by simp only [List.length_append, ms_len]; omega) (by simp; omega) (by simp only [List.length_append, ms_len, List.length_nil]; omega) (by omega) (by simp) (by simp)
    simpa only [ms_nil, List.append_nil] using this
  have j1 : 20 < n → ACall Try.prog 129 #[.slice (some ⟨r, 0, none⟩) n n, .int .i64 ((0 : Nat) : Int), .int .i64 ((20 : Nat) : Int), .int .i64 (n : Nat), .func (.func g) #[] cap] (St m r kd s (ms le T ++ ms le D)) (Ret (.tuple #[]) (St m r kd s (ms le (T ++ D)))) := fun h => by
    have := f129_ok hC hT hf hb n (by omega) _ 0 20 n [] (ms le T) (ms le D) [] (Nat.le_refl _) rfl (by rw [ms_len]; omega) (by rw [ms_len]; omega) (by rw [ms_len]; omega) (by rw [ms_len]; omega) (by simp only [List.length_append, ms_len, List.length_nil]; omega)
      (fun x hx => pT x (ms_mem.1 hx)) (fun x hx => pD x (ms_mem.1 hx)) (fun x hx y hy => xTD x (ms_mem.1 hx) y (ms_mem.1 hy)) (ms_srt hT) (ms_srt hT)
    have e : ms le (ms le T ++ ms le D) = ms le (T ++ D) := ms_congr hT (List.Perm.append ms_perm ms_perm)
    rw [e] at this
    simpa only [List.append_nil, List.nil_append] using this
  have k1 : n ≤ 20 → ms le T ++ ms le D = ms le (T ++ D) := fun h => by
    obtain rfl : D = [] := List.eq_nil_of_length_eq_zero (by omega)
    simp [ms_nil]
  have k2 : n < 20 → ms le T ++ D = ms le T ++ ms le D := fun h => by
    obtain rfl : D = [] := List.eq_nil_of_length_eq_zero (by omega)
    simp [ms_nil]
  clear xT xD xTD pT pD hp
  refine ACall.intro Try.func122 rfl (Nat.le_of_ble_eq_true rfl) ?_
  (repeat (first | (with_reducible refine AWo.cons ?_) | ((with_reducible refine Step.id ?_); first | ((with_reducible apply Step.move); exact rfl; exact rfl) | ((with_reducible apply Step.assign); exact rfl; exact rfl)) | (with_reducible refine AWo.nil ?_) | ((with_reducible apply AW.seq)) | ((with_reducible apply Then.n)) | ((with_reducible apply AW.regL)) | ((with_reducible apply AW.block))))
  refine AW.loopW (fun u t M => ∃ (a : Nat) (row : List Int), u = 60 - a ∧ (a = 0 ∧ row = T ++ D ∨ a = 20 ∧ 20 ≤ n ∧ row = ms le T ++ D ∨ a = 40 ∧ n = 40 ∧ row = ms le T ++ ms le D) ∧
    t = fr [(0, .slice (some ⟨r, 0, none⟩) n n), (1, .int .i64 (n : Nat)), (2, .func (.func g) #[] cap), (6, .int .i64 20), (7, .int .i64 ((a : Nat) : Int)), (8, .int .i64 ((a + 20 : Nat) : Int))] ∧ M = St m r kd s row) ⟨_, _, (by repeat (first | exact trivial | (refine And.intro rfl ?_))), 0, _, rfl, .inl ⟨rfl, rfl⟩, rfl, rfl⟩ ?_
  rintro u t M ⟨a, row, rfl, hcase, rfl, rfl⟩
  have e1 : ((a + 20 : Nat) : Int) + 20 = ((a + 20 + 20 : Nat) : Int) := by omega
  by_cases hcont : a + 20 ≤ n
  · rcases hcase with ⟨rfl, rfl⟩ | ⟨rfl, _, rfl⟩ | ⟨rfl, _, rfl⟩
    · (repeat (first | (with_reducible refine AWo.cons ?_) | ((with_reducible refine Step.id ?_); first | ((with_reducible apply Step.move); exact rfl; exact rfl) | ((with_reducible apply Step.assign); exact rfl; exact rfl) | ((with_reducible apply Step.addE); exact rfl; exact rfl; (focus (assumption)); (focus (omega)); exact rfl) | ((with_reducible apply Step.leq); exact rfl; exact rfl; exact rfl) | ((with_reducible apply Step.callM fit); exact rfl; exact Try.func128; exact rfl; exact rfl; exact ((i1 (by omega))))) | (with_reducible refine AWo.nil ?_) | ((with_reducible apply AW.seq)) | ((with_reducible apply Then.n)) | ((with_reducible apply AW.regL)) | ((with_reducible apply AW.block)) | ((with_reducible apply InBlk.n)) | ((with_reducible apply AW.skip)) | ((with_reducible apply AW.condT); exact rfl; (focus ((simp only [decide_eq_true_eq, decide_eq_false_iff_not, Bool.not_eq_true', Bool.not_eq_false', Bool.not_true, Bool.not_false]; first | assumption | omega))))))
      exact ⟨_, _, by omega, (by repeat (first | exact trivial | (refine And.intro rfl ?_))), 20, _, rfl, .inr (.inl ⟨rfl, by omega, rfl⟩), rfl, rfl⟩
    · obtain rfl : n = 40 := by omega
      (repeat (first | (with_reducible refine AWo.cons ?_) | ((with_reducible refine Step.id ?_); first | ((with_reducible apply Step.move); exact rfl; exact rfl) | ((with_reducible apply Step.assign); exact rfl; exact rfl) | ((with_reducible apply Step.addE); exact rfl; exact rfl; (focus (assumption)); (focus (omega)); exact rfl) | ((with_reducible apply Step.leq); exact rfl; exact rfl; exact rfl) | ((with_reducible apply Step.callM fit); exact rfl; exact Try.func128; exact rfl; exact rfl; exact ((i3 (by omega))))) | (with_reducible refine AWo.nil ?_) | ((with_reducible apply AW.seq)) | ((with_reducible apply Then.n)) | ((with_reducible apply AW.regL)) | ((with_reducible apply AW.block)) | ((with_reducible apply InBlk.n)) | ((with_reducible apply AW.skip)) | ((with_reducible apply AW.condT); exact rfl; (focus (rfl)))))
      exact ⟨_, _, by omega, (by repeat (first | exact trivial | (refine And.intro rfl ?_))), 40, _, rfl, .inr (.inr ⟨rfl, rfl, rfl⟩), rfl, rfl⟩
    · omega
  · have fin : ∀ K : AM → Prop, (∀ row, row = ms le T ++ ms le D → K (St m r kd s row)) → K (St m r kd s (ms le T ++ ms le D)) := fun K h => h _ rfl
    have ins : ∃ row', ACall Try.prog 128 #[.slice (some ⟨r, 0, none⟩) n n, .int .i64 ((a : Nat) : Int), .int .i64 (n : Nat), .func (.func g) #[] cap] (St m r kd s row) (Ret (.tuple #[]) (St m r kd s row')) ∧ row' = ms le T ++ ms le D := by
      rcases hcase with ⟨rfl, rfl⟩ | ⟨rfl, _, rfl⟩ | ⟨rfl, _, rfl⟩
      · exact ⟨_, i2 (by omega), k2 (by omega)⟩
      · exact ⟨_, i3 (by omega), rfl⟩
      · exact ⟨_, i4 (by omega), rfl⟩
    obtain ⟨row', ins, hrow'⟩ := ins
    clear fin hcase
    (repeat (first | (with_reducible refine AWo.cons ?_) | ((with_reducible refine Step.id ?_); first | ((with_reducible apply Step.move); exact rfl; exact rfl) | ((with_reducible apply Step.leq); exact rfl; exact rfl; exact rfl) | ((with_reducible apply Step.callM fit); exact rfl; exact Try.func128; exact rfl; exact rfl; exact (ins))) | (with_reducible refine AWo.nil ?_) | ((with_reducible apply AW.seq)) | ((with_reducible apply Then.n)) | ((with_reducible apply AW.regL)) | ((with_reducible apply AW.block)) | ((with_reducible apply AW.exit)) | ((with_reducible apply InBlk.hit)) | ((with_reducible apply Then.e)) | ((with_reducible apply AW.condF); exact rfl; (focus ((simp only [decide_eq_true_eq, decide_eq_false_iff_not, Bool.not_eq_true', Bool.not_eq_false', Bool.not_true, Bool.not_false]; first | assumption | omega))))))
    refine AW.loopW (fun u t M => ∃ (bs : Nat) (row : List Int), u = 60 - bs ∧ (bs = 20 ∧ row = ms le T ++ ms le D ∨ bs = 40 ∧ row = ms le (T ++ D)) ∧
      t = fr [(0, .slice (some ⟨r, 0, none⟩) n n), (1, .int .i64 (n : Nat)), (2, .func (.func g) #[] cap), (6, .int .i64 ((bs : Nat) : Int))] ∧ M = St m r kd s row) ⟨_, _, (by repeat (first | exact trivial | (refine And.intro rfl ?_))), 20, _, rfl, .inl ⟨rfl, hrow'⟩, rfl, rfl⟩ ?_
    rintro u t M ⟨bs, row, rfl, hcase, rfl, rfl⟩
    by_cases hgo : bs < n
    · obtain ⟨rfl, rfl⟩ : bs = 20 ∧ row = ms le T ++ ms le D := by
        rcases hcase with h | ⟨h, _⟩
        · exact h
        · omega
      have e2 : (2 : Int) * ((20 : Nat) : Int) = ((40 : Nat) : Int) := by omega
      have e3 : ((20 : Nat) : Int) * (2 : Int) = ((40 : Nat) : Int) := by omega
      (repeat (first | (with_reducible refine AWo.cons ?_) | ((with_reducible refine Step.id ?_); first | ((with_reducible apply Step.move); exact rfl; exact rfl) | ((with_reducible apply Step.assign); exact rfl; exact rfl) | ((with_reducible apply Step.mulE); exact rfl; exact rfl; (focus (assumption)); (focus (omega)); exact rfl) | ((with_reducible apply Step.lss); exact rfl; exact rfl; exact rfl)) | (with_reducible refine AWo.nil ?_) | ((with_reducible apply AW.seq)) | ((with_reducible apply Then.n)) | ((with_reducible apply AW.regL)) | ((with_reducible apply AW.block)) | ((with_reducible apply AW.skip)) | ((with_reducible apply AW.condT); exact rfl; (focus ((simp only [decide_eq_true_eq, decide_eq_false_iff_not, Bool.not_eq_true', Bool.not_eq_false', Bool.not_true, Bool.not_false]; first | assumption | omega))))))
      refine AW.loopW (fun u t M => ∃ (a : Nat) (row : List Int), u = 60 - a ∧ (a = 0 ∧ row = ms le T ++ ms le D ∨ a = 40 ∧ n = 40 ∧ row = ms le (T ++ D)) ∧
        t = fr [(0, .slice (some ⟨r, 0, none⟩) n n), (1, .int .i64 (n : Nat)), (2, .func (.func g) #[] cap), (6, .int .i64 ((20 : Nat) : Int)), (7, .int .i64 ((a : Nat) : Int)), (8, .int .i64 ((a + 40 : Nat) : Int))] ∧ M = St m r kd s row) ⟨_, _, (by repeat (first | exact trivial | (refine And.intro rfl ?_))), 0, _, rfl, .inl ⟨rfl, rfl⟩, rfl, rfl⟩ ?_
      rintro u t M ⟨a, row, rfl, hcase, rfl, rfl⟩
      have e4 : ((a + 40 : Nat) : Int) + ((40 : Nat) : Int) = ((a + 40 + 40 : Nat) : Int) := by omega
      have e5 : ((a : Nat) : Int) + ((20 : Nat) : Int) = ((a + 20 : Nat) : Int) := by omega
      rcases hcase with ⟨rfl, rfl⟩ | ⟨rfl, h40, rfl⟩
      · by_cases h40 : n = 40
        · subst h40
          (repeat (first | (with_reducible refine AWo.cons ?_) | ((with_reducible refine Step.id ?_); first | ((with_reducible apply Step.move); exact rfl; exact rfl) | ((with_reducible apply Step.assign); exact rfl; exact rfl) | ((with_reducible apply Step.addE); exact rfl; exact rfl; (focus (assumption)); (focus (omega)); exact rfl) | ((with_reducible apply Step.mulE); exact rfl; exact rfl; (focus (assumption)); (focus (omega)); exact rfl) | ((with_reducible apply Step.leq); exact rfl; exact rfl; exact rfl) | ((with_reducible apply Step.callM fit); exact rfl; exact Try.func129; exact rfl; exact rfl; exact ((j1 (by omega))))) | (with_reducible refine AWo.nil ?_) | ((with_reducible apply AW.seq)) | ((with_reducible apply Then.n)) | ((with_reducible apply AW.regL)) | ((with_reducible apply AW.block)) | ((with_reducible apply InBlk.n)) | ((with_reducible apply AW.skip)) | ((with_reducible apply AW.condT); exact rfl; (focus (rfl)))))
          exact ⟨_, _, by omega, (by repeat (first | exact trivial | (refine And.intro rfl ?_))), 40, _, rfl, .inr ⟨rfl, rfl, rfl⟩, rfl, rfl⟩
        · (repeat (first | (with_reducible refine AWo.cons ?_) | ((with_reducible refine Step.id ?_); first | ((with_reducible apply Step.move); exact rfl; exact rfl) | ((with_reducible apply Step.assign); exact rfl; exact rfl) | ((with_reducible apply Step.addE); exact rfl; exact rfl; (focus (assumption)); (focus (omega)); exact rfl) | ((with_reducible apply Step.mulE); exact rfl; exact rfl; (focus (assumption)); (focus (omega)); exact rfl) | ((with_reducible apply Step.lss); exact rfl; exact rfl; exact rfl) | ((with_reducible apply Step.leq); exact rfl; exact rfl; exact rfl) | ((with_reducible apply Step.callM fit); exact rfl; exact Try.func129; exact rfl; exact rfl; exact ((j1 (by omega))))) | (with_reducible refine AWo.nil ?_) | ((with_reducible apply AW.seq)) | ((with_reducible apply Then.n)) | ((with_reducible apply AW.regL)) | ((with_reducible apply AW.exit)) | ((with_reducible apply InBlk.n)) | ((with_reducible apply InBlk.hit)) | ((with_reducible apply Then.e)) | ((with_reducible apply AW.condT); exact rfl; (focus ((simp only [decide_eq_true_eq, decide_eq_false_iff_not, Bool.not_eq_true', Bool.not_eq_false', Bool.not_true, Bool.not_false]; first | assumption | omega)))) | ((with_reducible apply AW.condF); exact rfl; (focus ((simp only [decide_eq_true_eq, decide_eq_false_iff_not, Bool.not_eq_true', Bool.not_eq_false', Bool.not_true, Bool.not_false]; first | assumption | omega))))))
          exact ⟨_, _, by omega, (by repeat (first | exact trivial | (refine And.intro rfl ?_))), 40, _, rfl, .inr ⟨rfl, rfl⟩, rfl, rfl⟩
      · (repeat (first | (with_reducible refine AWo.cons ?_) | ((with_reducible refine Step.id ?_); first | ((with_reducible apply Step.move); exact rfl; exact rfl) | ((with_reducible apply Step.assign); exact rfl; exact rfl) | ((with_reducible apply Step.addE); exact rfl; exact rfl; (focus (assumption)); (focus (omega)); exact rfl) | ((with_reducible apply Step.mulE); exact rfl; exact rfl; (focus (assumption)); (focus (omega)); exact rfl) | ((with_reducible apply Step.lss); exact rfl; exact rfl; exact rfl) | ((with_reducible apply Step.leq); exact rfl; exact rfl; exact rfl)) | (with_reducible refine AWo.nil ?_) | ((with_reducible apply AW.seq)) | ((with_reducible apply Then.n)) | ((with_reducible apply AW.regL)) | ((with_reducible apply AW.exit)) | ((with_reducible apply InBlk.n)) | ((with_reducible apply InBlk.hit)) | ((with_reducible apply Then.e)) | ((with_reducible apply AW.skip)) | ((with_reducible apply AW.condF); exact rfl; (focus ((simp only [decide_eq_true_eq, decide_eq_false_iff_not, Bool.not_eq_true', Bool.not_eq_false', Bool.not_true, Bool.not_false]; first | assumption | omega))))))
        exact ⟨_, _, by omega, (by repeat (first | exact trivial | (refine And.intro rfl ?_))), 40, _, rfl, .inr ⟨rfl, rfl⟩, rfl, rfl⟩
    · (repeat (first | (with_reducible refine AWo.cons ?_) | ((with_reducible refine Step.id ?_); first | ((with_reducible apply Step.move); exact rfl; exact rfl) | ((with_reducible apply Step.lss); exact rfl; exact rfl; exact rfl)) | (with_reducible refine AWo.nil ?_) | ((with_reducible apply AW.seq)) | ((with_reducible apply Then.n)) | ((with_reducible apply AW.regL)) | ((with_reducible apply AW.exit)) | ((with_reducible apply InBlk.hit)) | ((with_reducible apply Then.e)) | ((with_reducible apply AW.condF); exact rfl; (focus ((simp only [decide_eq_true_eq, decide_eq_false_iff_not, Bool.not_eq_true', Bool.not_eq_false', Bool.not_true, Bool.not_false]; first | assumption | omega))))))
      refine ⟨_, rfl, rfl, ?_⟩
      rcases hcase with ⟨rfl, rfl⟩ | ⟨rfl, rfl⟩
      · rw [k1 (by omega)]
      · rfl
-- function 101
set_option maxRecDepth 100000 in
theorem stable_ok (hC : CmpOk m r s kd c p g cap) (hT : TO le) (hf : Try.prog.funcs[g]? = some fn) (hb : fn.body = some bd) (n : Nat) (l : List Int) (hl : l.length = n) (hn : n ≤ 40) (hp : ∀ x ∈ l, p x) (hX : l.Pairwise (Cross le c)) :
    ACall Try.prog 101 #[.slice (some ⟨r, 0, none⟩) n n, .func (.func g) #[] cap] (St m r kd s l) (Ret (.tuple #[]) (St m r kd s (ms le l))) := by
  refine ACall.intro Try.func101 rfl (Nat.le_of_ble_eq_true rfl) ?_
  (repeat (first | (with_reducible refine AWo.cons ?_) | ((with_reducible refine Step.id ?_); first | ((with_reducible apply Step.move); exact rfl; exact rfl) | ((with_reducible apply Step.len); exact rfl; (focus (exact Sl.mk (by omega))); (focus (decide +kernel)); exact rfl) | ((with_reducible apply Step.callM fit); exact rfl; exact Try.func122; exact rfl; exact rfl; exact ((f122_ok hC hT hf hb n l hl hn hp hX)))) | (with_reducible refine AWo.nil ?_) | ((with_reducible apply AW.regL))))
  exact ⟨_, rfl, rfl, rfl⟩
end
end Go.Proofs.Ytmomjannlnafcaa.Abs
