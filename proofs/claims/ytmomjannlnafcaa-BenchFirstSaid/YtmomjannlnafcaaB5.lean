/- Chapter 8: the span, and the position that makes it. -/
import Derived.Test.YtmomjannlnafcaaB4
namespace Go.Proofs.Ytmomjannlnafcaa.Abs
set_option linter.unusedSimpArgs false
set_option linter.unusedVariables false
open Go.RowKit
open Go.Proofs.Ytmomjannlnafcaa.Sim
open Go.Proofs
theorem ze78 : zeroB Try.prog 78 = some #[.int .i64 0, .int .i64 0] := by kernel_rfl
theorem ze75 : zeroB Try.prog 75 = some #[.int .i64 0, .int .i64 0] := by kernel_rfl
theorem el27 : elemB Try.prog 27 = some (75, 2, 16, #[.int .i64 0, .int .i64 0]) := by kernel_rfl
theorem un27 : Try.prog.underlying 27 = some (.slice 75) := by kernel_rfl
theorem bl75 {x y : Int} : abuild Try.prog 75 [(0, .int .i64 x), (1, .int .i64 y)] = some (.agg #[.int .i64 x, .int .i64 y]) := by kernel_rfl
theorem bs27 {m : AM} {n : Nat} {x y : Int} : abuildSlice Try.prog m n 27 1 [(0, .agg #[.int .i64 x, .int .i64 y])] = some (.slice (some ⟨n, 0, none⟩) 1 1, m.set n (some { cells := [.int .i64 x, .int .i64 y] })) := by kernel_rfl
def twoC (j : List Two) : List Value := j.flatMap Two.cells
theorem twoC_len (j : List Two) : (twoC j).length = j.length * 2 := by
  induction j with
  | nil => rfl
  | cons x j ih => simp only [twoC, List.flatMap_cons, List.length_append] at ih ⊢; rw [ih]; simp [Two.cells]; omega
theorem g0_twoC (j : List Two) : ∀ v ∈ twoC j, g0 v = true := fun v hv => by
  obtain ⟨x, _, hx⟩ := List.mem_flatMap.1 hv
  simp [Two.cells] at hx
  rcases hx with rfl | rfl <;> rfl
theorem twoC_snoc (j : List Two) (k : Nat) (h : k < j.length) : twoC (j.take (k + 1)) = twoC (j.take k) ++ (j.getD k default).cells := by
  rw [take_snoc j k default h]; simp [twoC]
theorem twoC_get (j : List Two) : ∀ (k : Nat), k < j.length → ∀ (i : Nat) (v : Value), (j.getD k default).cells[i]? = some v → (twoC j)[k * 2 + i]? = some v := by
  induction j with
  | nil => intro k h; simp at h
  | cons x j ih =>
    intro k h i v hi
    have hc : x.cells.length = 2 := rfl
    simp only [twoC, List.flatMap_cons]
    cases k with
    | zero =>
      have : i < 2 := by
        have := (List.getElem?_eq_some_iff.1 hi).1
        simpa [Two.cells] using this
      rw [List.getElem?_append_left (by omega)]
      simpa using hi
    | succ k =>
      rw [List.getElem?_append_right (by omega), hc, show (k + 1) * 2 + i - 2 = k * 2 + i by omega]
      exact ih k (by simpa using h) i v (by simpa using hi)
theorem twos_new {M L : AM} {k : Nat} {j : List Two} (hk : k < L.length) (h : L[k]? = some (gb (twoC j) 2)) : Twos (M ++ L) (gv (M.length + k) j.length) j := by
  refine ⟨M.length + k, 0, gv_sl _ _, by simp; omega, fun i hi => ?_⟩
  have hp : 0 < (twoC j).length := by rw [twoC_len]; omega
  rw [gb_pos hp] at h
  refine ⟨_, by rw [get_app]; exact h, fun q v hq => ?_⟩
  rw [Nat.zero_add]; exact twoC_get j i hi q v hq
-- function 21
set_option maxRecDepth 100000 in
theorem f21_ok {m : AM} {v : Value} {j : List Two} (hj : Twos m v j) (hlen : j.length ≤ 9223372036854775807) : ACall Try.prog 21 #[v] m (NewG (twoC (j.take 42)) 2 (j.take 42).length m) := by
  obtain ⟨a, o, h1, h2, h3⟩ := hj
  refine ACall.start Try.func21 rfl rfl ?_
  (repeat (first | (with_reducible refine AWo.cons ?_) | ((with_reducible refine Step.id ?_); first | ((with_reducible apply Step.move); exact rfl; exact rfl) | ((with_reducible apply Step.assign); exact rfl; exact rfl) | ((with_reducible apply Step.len); exact rfl; (focus (assumption)); (focus (decide +kernel)); exact rfl)) | (with_reducible refine AWo.nil ?_) | ((with_reducible apply AW.seq)) | ((with_reducible apply Then.n)) | ((with_reducible apply AW.regL)) | ((with_reducible apply AW.block))))
  refine AW.loopT (fun n t L => ∃ k : Nat, n = j.length - k ∧ k ≤ j.length ∧ k ≤ 42 ∧ L = [gb (twoC (j.take k)) 2] ∧
    t = [(3, gv (m.length + 0) k), (6, v), (7, .int .i64 (j.length : Nat)), (8, .int .i64 (k : Nat))]) ⟨_, _, _, Back.pad (by repeat (first | exact trivial | (refine And.intro ⟨rfl, by (first | exact .int _ _ | exact Ren.of_gv (by first | (simp; done) | omega | (simp; omega)) | exact Ren.of_sl (by assumption) (by first | omega | (simp; omega)))⟩ ?_))) CellsOk.nil, 0, rfl, Nat.zero_le _, Nat.zero_le _, rfl, rfl⟩ ?_
  rintro n t L ⟨k, rfl, hk, hk2, rfl, rfl⟩
  have fin : ∀ i, i = k → (k = j.length ∨ k = 42) → (gv (m.length + 0) k = gv (m.length + 0) (j.take 42).length ∧ twoC (j.take k) = twoC (j.take 42)) := fun i _ h => by
    rcases h with h | h
    · subst h
      rw [List.take_of_length_le (show j.length ≤ 42 by omega), List.take_of_length_le (Nat.le_refl _)]; exact ⟨rfl, rfl⟩
    · subst h
      exact ⟨by rw [List.length_take, Nat.min_eq_left hk], rfl⟩
  have g0c := g0_twoC (j.take k)
  rcases Nat.lt_or_ge k j.length with hlt | hge
  · by_cases hk3 : (41 : Int) < (k : Int)
    · (repeat (first | (with_reducible refine AWo.cons ?_) | ((with_reducible refine Step.id ?_); first | ((with_reducible apply Step.move); exact rfl; exact rfl) | ((with_reducible apply Step.assign); exact rfl; exact rfl) | ((with_reducible apply Step.loadL (n := 2)); exact rfl; (focus (decide +kernel)); (focus (decide +kernel)); exact rfl; (focus (exact RdL.old _ (h3 _ hlt))); exact rfl; exact rfl) | ((with_reducible apply Step.ix (s := 2)); exact rfl; (focus (assumption)); exact rfl; (focus (decide +kernel)); exact rfl; (focus (omega))) | ((with_reducible apply Step.lss); exact rfl; exact rfl; exact rfl) | ((with_reducible apply Step.gtr); exact rfl; exact rfl; exact rfl) | ((with_reducible apply Step.alloc 1); exact rfl; exact ze78; exact rfl; (focus (first | (simp only [List.nil_append, List.cons_append, List.set_cons_zero, List.set_cons_succ, iv_set, bv_set, iv_rep, bv_rep]; done) | (simp only [List.nil_append, List.cons_append, List.set_cons_zero, List.set_cons_succ, iv_set, bv_set, iv_rep, bv_rep]; rfl) | rfl))) | ((with_reducible apply Step.storeA (k := 1) (n := 2)); exact rfl; exact rfl; exact rfl; exact rfl; (focus (decide +kernel)); exact rfl; (focus (kernel_rfl)); exact rfl; (focus (first | (simp only [List.nil_append, List.cons_append, List.set_cons_zero, List.set_cons_succ, iv_set, bv_set, iv_rep, bv_rep]; done) | (simp only [List.nil_append, List.cons_append, List.set_cons_zero, List.set_cons_succ, iv_set, bv_set, iv_rep, bv_rep]; rfl) | rfl)))) | (with_reducible refine AWo.nil ?_) | ((with_reducible apply AW.seq)) | ((with_reducible apply Then.n)) | ((with_reducible apply AW.regL)) | ((with_reducible apply AW.block)) | ((with_reducible apply AW.exit)) | ((with_reducible apply InBlk.hit)) | ((with_reducible apply InBlk.miss); exact rfl) | ((with_reducible apply Then.e)) | ((with_reducible apply AW.skip)) | ((with_reducible apply AW.condT); exact rfl; (focus ((simp only [decide_eq_true_eq, decide_eq_false_iff_not, Bool.not_eq_true', Bool.not_eq_false', Bool.not_true, Bool.not_false]; first | assumption | omega))))))
      refine AW.retB (l := [(2, _)]) (L1 := [gb (twoC (j.take k)) 2]) (Back.trim rfl rfl (by repeat (first | exact CellsOk.nil | refine CellsOk.gb (by assumption) ?_)) (by repeat (first | exact trivial | (refine And.intro ⟨rfl, by (exact Ren.of_gv (by first | (simp; done) | omega | (simp; omega)))⟩ ?_)))) ?_
      obtain ⟨e1, e2⟩ := fin k rfl (.inr (by omega))
      exact ⟨_, rfl, by rw [e1], by rw [e2]⟩
    · have hl := twoC_len (j.take k)
      have hlk : (j.take k).length = k := by simp; omega
      rw [hlk] at hl
      have ts := twoC_snoc j k hlt
      have g0n := g0_twoC (j.take (k + 1))
      (repeat (first | (with_reducible refine AWo.cons ?_) | ((with_reducible refine Step.id ?_); first | ((with_reducible apply Step.move); exact rfl; exact rfl) | ((with_reducible apply Step.assign); exact rfl; exact rfl) | ((with_reducible apply Step.load); exact rfl; (focus (decide +kernel)); exact rfl; (focus (exact Rd.new rfl rfl))) | ((with_reducible apply Step.loadL (n := 2)); exact rfl; (focus (decide +kernel)); (focus (decide +kernel)); exact rfl; (focus (exact RdL.old _ (h3 _ hlt))); exact rfl; exact rfl) | ((with_reducible apply Step.ix (s := 2)); exact rfl; (focus (assumption)); exact rfl; (focus (decide +kernel)); exact rfl; (focus (omega))) | ((with_reducible apply Step.field0); exact rfl; (focus (decide +kernel)); exact rfl) | ((with_reducible apply Step.field (k := 1)); exact rfl; (focus (decide +kernel)); exact rfl) | ((with_reducible apply Step.lss); exact rfl; exact rfl; exact rfl) | ((with_reducible apply Step.gtr); exact rfl; exact rfl; exact rfl) | ((with_reducible apply Step.alloc 1); exact rfl; exact ze78; exact rfl; (focus (first | (simp only [List.nil_append, List.cons_append, List.set_cons_zero, List.set_cons_succ, iv_set, bv_set, iv_rep, bv_rep]; done) | (simp only [List.nil_append, List.cons_append, List.set_cons_zero, List.set_cons_succ, iv_set, bv_set, iv_rep, bv_rep]; rfl) | rfl))) | ((with_reducible apply Step.storeA (k := 1) (n := 2)); exact rfl; exact rfl; exact rfl; exact rfl; (focus (decide +kernel)); exact rfl; (focus (kernel_rfl)); exact rfl; (focus (first | (simp only [List.nil_append, List.cons_append, List.set_cons_zero, List.set_cons_succ, iv_set, bv_set, iv_rep, bv_rep]; done) | (simp only [List.nil_append, List.cons_append, List.set_cons_zero, List.set_cons_succ, iv_set, bv_set, iv_rep, bv_rep]; rfl) | rfl))) | ((with_reducible apply Step.buildS 2); exact rfl; exact rfl; exact (fun _ _ => bs27); exact rfl; (focus (first | (simp only [List.nil_append, List.cons_append, List.set_cons_zero, List.set_cons_succ, iv_set, bv_set, iv_rep, bv_rep]; done) | (simp only [List.nil_append, List.cons_append, List.set_cons_zero, List.set_cons_succ, iv_set, bv_set, iv_rep, bv_rep]; rfl) | rfl))) | ((with_reducible apply Step.build); exact rfl; exact bl75; exact rfl)) | (with_reducible refine AWo.nil ?_) | ((with_reducible apply AW.seq)) | ((with_reducible apply Then.n)) | ((with_reducible apply AW.regL)) | ((with_reducible apply AW.block)) | ((with_reducible apply AW.skip)) | ((with_reducible apply AW.condT); exact rfl; (focus ((simp only [decide_eq_true_eq, decide_eq_false_iff_not, Bool.not_eq_true', Bool.not_eq_false', Bool.not_true, Bool.not_false]; first | assumption | omega)))) | ((with_reducible apply AW.condF); exact rfl; (focus ((simp only [decide_eq_true_eq, decide_eq_false_iff_not, Bool.not_eq_true', Bool.not_eq_false', Bool.not_true, Bool.not_false]; first | assumption | omega))))))
      ((with_reducible apply Step.appG (k := 3)); exact rfl; exact rfl; exact rfl; exact el27; exact un27; exact rfl; exact rfl; exact rfl; exact hl; exact rfl; exact rfl; exact rfl; (focus (omega)); exact rfl; (focus (first | (simp only [List.nil_append, List.cons_append, List.set_cons_zero, List.set_cons_succ, iv_set, bv_set, iv_rep, bv_rep]; done) | (simp only [List.nil_append, List.cons_append, List.set_cons_zero, List.set_cons_succ, iv_set, bv_set, iv_rep, bv_rep]; rfl) | rfl)))
      (repeat (first | (with_reducible refine AWo.cons ?_) | ((with_reducible refine Step.id ?_); first | ((with_reducible apply Step.move); exact rfl; exact rfl) | ((with_reducible apply Step.assign); exact rfl; exact rfl) | ((with_reducible apply Step.add); exact rfl; exact rfl; (focus (omega)); exact rfl)) | (with_reducible refine AWo.nil ?_) | ((with_reducible apply Then.n)) | ((with_reducible apply AW.regL)) | ((with_reducible apply InBlk.n))))
      rw [ts] at g0n
      refine ⟨_, [(3, .slice (some ⟨m.length + 0, 0, none⟩) (k + 1) (k + 1)), (6, v), (7, .int .i64 (j.length : Nat)), (8, .int .i64 (k + 1 : Nat))], [some { cells := twoC (j.take k) ++ (j.getD k default).cells, kind := .grow, size := 2 }], by omega, (Back.mv 0 3 rfl rfl rfl rfl (by intro j b hj h; rcases j with _ | _ | _ | _ | _ | _ | j <;> simp_all) (by repeat (first | exact CellsOk.nil | refine CellsOk.cons (by assumption) ?_)) (by repeat (first | exact trivial | (refine And.intro ⟨_, rfl, by (first | exact .int _ _ | exact Ren.slice_mv (by first | (simp; done) | omega | (simp; omega)) | exact Ren.of_sl_ne (by assumption) (by first | omega | (simp; omega)) (by first | omega | (simp; omega)))⟩ ?_)))), k + 1, rfl, by omega, by omega, ?_, ?_⟩
      · rw [ts, gb_pos (by simp [Two.cells])]
      · rw [gv_pos (by omega)]
  · (repeat (first | (with_reducible refine AWo.cons ?_) | ((with_reducible refine Step.id ?_); first | ((with_reducible apply Step.move); exact rfl; exact rfl) | ((with_reducible apply Step.assign); exact rfl; exact rfl) | ((with_reducible apply Step.lss); exact rfl; exact rfl; exact rfl)) | (with_reducible refine AWo.nil ?_) | ((with_reducible apply AW.seq)) | ((with_reducible apply Then.n)) | ((with_reducible apply AW.regL)) | ((with_reducible apply AW.exit)) | ((with_reducible apply InBlk.hit)) | ((with_reducible apply Then.e)) | ((with_reducible apply AW.condF); exact rfl; (focus ((simp only [decide_eq_true_eq, decide_eq_false_iff_not, Bool.not_eq_true', Bool.not_eq_false', Bool.not_true, Bool.not_false]; first | assumption | omega))))))
    refine AW.retB (l := [(2, _)]) (L1 := [gb (twoC (j.take k)) 2]) (Back.trim rfl rfl (by repeat (first | exact CellsOk.nil | refine CellsOk.gb (by assumption) ?_)) (by repeat (first | exact trivial | (refine And.intro ⟨rfl, by (exact Ren.of_gv (by first | (simp; done) | omega | (simp; omega)))⟩ ?_)))) ?_
    obtain ⟨e1, e2⟩ := fin k rfl (.inl (by omega))
    exact ⟨_, rfl, by rw [e1], by rw [e2]⟩
end Go.Proofs.Ytmomjannlnafcaa.Abs
