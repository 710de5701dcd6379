/- Proved here: what the proof of PairOdd rests on, part 4 of 5. Conditions: those that each theorem names. -/
import Derived.Test.YtajpngnphbdnnaaPairOddK3
namespace Go.Proofs.Ytajpngnphbdnnaa.Abs
set_option linter.unusedSimpArgs false
set_option linter.unusedVariables false
open Go.RowKit
open Go.Proofs.Ytajpngnphbdnnaa.Sim
open Go.Proofs
theorem ze24 : zeroB Try.prog 24 = some #[.int .i64 0, .int .i64 0, .int .i64 0, .int .i64 0] := by kernel_rfl
theorem el31 : elemB Try.prog 31 = some (33, 4, 32, #[.int .i64 0, .int .i64 0, .int .i64 0, .int .i64 0]) := by kernel_rfl
theorem un31 : Try.prog.underlying 31 = some (.slice 33) := by kernel_rfl
theorem bs31 {m : AM} {n : Nat} {x : Gl} : abuildSlice Try.prog m n 31 1 [(0, x.v)] = some (.slice (some ⟨n, 0, none⟩) 1 1, m.set n (some { cells := x.cells })) := by cases x; kernel_rfl
def glC (j : List Gl) : List Value := j.flatMap Gl.cells
theorem glC_len (j : List Gl) : (glC j).length = j.length * 4 := by
  induction j with
  | nil => rfl
  | cons x j ih => simp only [glC, List.flatMap_cons, List.length_append] at ih ⊢; rw [ih]; simp [Gl.cells]; omega
theorem g0_glC (j : List Gl) : ∀ v ∈ glC j, g0 v = true := fun v hv => by
  obtain ⟨x, _, hx⟩ := List.mem_flatMap.1 hv
  simp [Gl.cells] at hx
  rcases hx with rfl | rfl | rfl | rfl <;> rfl
theorem glC_snoc (j : List Gl) (k : Nat) (h : k < j.length) : glC (j.take (k + 1)) = glC (j.take k) ++ (j.getD k default).cells := by
  rw [take_snoc j k default h]; simp [glC]
theorem glC_get (j : List Gl) : ∀ (k : Nat), k < j.length → ∀ (i : Nat) (v : Value), (j.getD k default).cells[i]? = some v → (glC j)[k * 4 + i]? = some v := by
  induction j with
  | nil => intro k h; simp at h
  | cons x j ih =>
    intro k h i v hi
    have hc : x.cells.length = 4 := rfl
    simp only [glC, List.flatMap_cons]
    cases k with
    | zero =>
      have : i < 4 := by
        have := (List.getElem?_eq_some_iff.1 hi).1
        simpa [Gl.cells] using this
      rw [List.getElem?_append_left (by omega)]
      simpa using hi
    | succ k =>
      rw [List.getElem?_append_right (by omega), hc, show (k + 1) * 4 + i - 4 = k * 4 + i by omega]
      exact ih k (by simpa using h) i v (by simpa using hi)
theorem gls_new {M L : AM} {k : Nat} {j : List Gl} (hk : k < L.length) (h : L[k]? = some (gb (glC j) 4)) : Gls (M ++ L) (gv (M.length + k) j.length) j := by
  refine ⟨M.length + k, 0, gv_sl _ _, by simp; omega, fun i hi => ?_⟩
  have hp : 0 < (glC j).length := by rw [glC_len]; omega
  rw [gb_pos hp] at h
  refine ⟨_, by rw [get_app]; exact h, fun q v hq => ?_⟩
  rw [Nat.zero_add]; exact glC_get j i hi q v hq
set_option maxRecDepth 100000 in
theorem lside_ok {m : AM} {v : Value} {j : List Gl} (hj : Gls m v j) (hlen : j.length ≤ 9223372036854775807) : ACall Try.prog 21 #[v] m (NewG (glC (j.take 34)) 4 (j.take 34).length m) := by
  obtain ⟨a, o, h1, h2, h3⟩ := hj
  refine ACall.start Try.func21 rfl rfl ?_
  (repeat (first | (with_reducible refine AWo.cons ?_) | ((with_reducible refine Step.id ?_); first | ((with_reducible apply Step.move); exact rfl; exact rfl) | ((with_reducible apply Step.assign); exact rfl; exact rfl) | ((with_reducible apply Step.len); exact rfl; (focus (assumption)); (focus (decide +kernel)); exact rfl)) | (with_reducible refine AWo.nil ?_) | ((with_reducible apply AW.seq)) | ((with_reducible apply Then.n)) | ((with_reducible apply AW.regL)) | ((with_reducible apply AW.block))))
  refine AW.loopT (fun n t L => ∃ k : Nat, n = j.length - k ∧ k ≤ j.length ∧ k ≤ 34 ∧ L = [gb (glC (j.take k)) 4] ∧
    t = [(3, gv (m.length + 0) k), (6, v), (7, .int .i64 (j.length : Nat)), (8, .int .i64 (k : Nat))]) ⟨_, _, _, Back.pad (by repeat (first | exact trivial | (refine And.intro ⟨rfl, by (first | exact .int _ _ | exact Ren.of_gv (by first | (simp; done) | omega | (simp; omega)) | exact Ren.of_sl (by assumption) (by first | omega | (simp; omega)))⟩ ?_))) CellsOk.nil, 0, rfl, Nat.zero_le _, Nat.zero_le _, rfl, rfl⟩ ?_
  rintro n t L ⟨k, rfl, hk, hk2, rfl, rfl⟩
  have fin : ∀ i, i = k → (k = j.length ∨ k = 34) → (gv (m.length + 0) k = gv (m.length + 0) (j.take 34).length ∧ glC (j.take k) = glC (j.take 34)) := fun i _ h => by
    rcases h with h | h
    · subst h
      rw [List.take_of_length_le (show j.length ≤ 34 by omega), List.take_of_length_le (Nat.le_refl _)]; exact ⟨rfl, rfl⟩
    · subst h
      exact ⟨by rw [List.length_take, Nat.min_eq_left hk], rfl⟩
  have g0c := g0_glC (j.take k)
  rcases Nat.lt_or_ge k j.length with hlt | hge
  · by_cases hk3 : (33 : Int) < (k : Int)
    · (repeat (first | (with_reducible refine AWo.cons ?_) | ((with_reducible refine Step.id ?_); first | ((with_reducible apply Step.move); exact rfl; exact rfl) | ((with_reducible apply Step.assign); exact rfl; exact rfl) | ((with_reducible apply Step.loadL (n := 4)); exact rfl; (focus (decide +kernel)); (focus (decide +kernel)); exact rfl; (focus (exact RdL.old _ (h3 _ hlt))); exact rfl; exact rfl) | ((with_reducible apply Step.ix (s := 4)); exact rfl; (focus (assumption)); exact rfl; (focus (decide +kernel)); exact rfl; (focus (omega))) | ((with_reducible apply Step.lss); exact rfl; exact rfl; exact rfl) | ((with_reducible apply Step.gtr); exact rfl; exact rfl; exact rfl) | ((with_reducible apply Step.alloc 1); exact rfl; exact ze24; exact rfl; (focus (first | (simp only [List.nil_append, List.cons_append, List.set_cons_zero, List.set_cons_succ, iv_set, bv_set, iv_rep, bv_rep]; done) | (simp only [List.nil_append, List.cons_append, List.set_cons_zero, List.set_cons_succ, iv_set, bv_set, iv_rep, bv_rep]; rfl) | rfl))) | ((with_reducible apply Step.storeA (k := 1) (n := 4)); exact rfl; exact rfl; exact rfl; exact rfl; (focus (decide +kernel)); exact rfl; (focus (kernel_rfl)); exact rfl; (focus (first | (simp only [List.nil_append, List.cons_append, List.set_cons_zero, List.set_cons_succ, iv_set, bv_set, iv_rep, bv_rep]; done) | (simp only [List.nil_append, List.cons_append, List.set_cons_zero, List.set_cons_succ, iv_set, bv_set, iv_rep, bv_rep]; rfl) | rfl)))) | (with_reducible refine AWo.nil ?_) | ((with_reducible apply AW.seq)) | ((with_reducible apply Then.n)) | ((with_reducible apply AW.regL)) | ((with_reducible apply AW.block)) | ((with_reducible apply AW.exit)) | ((with_reducible apply InBlk.hit)) | ((with_reducible apply InBlk.miss); exact rfl) | ((with_reducible apply Then.e)) | ((with_reducible apply AW.skip)) | ((with_reducible apply AW.condT); exact rfl; (focus ((simp only [decide_eq_true_eq, decide_eq_false_iff_not, Bool.not_eq_true', Bool.not_eq_false', Bool.not_true, Bool.not_false]; first | assumption | omega))))))
      refine AW.retB (l := [(2, _)]) (L1 := [gb (glC (j.take k)) 4]) (Back.trim rfl rfl (by repeat (first | exact CellsOk.nil | refine CellsOk.gb (by assumption) ?_)) (by repeat (first | exact trivial | (refine And.intro ⟨rfl, by (exact Ren.of_gv (by first | (simp; done) | omega | (simp; omega)))⟩ ?_)))) ?_
      obtain ⟨e1, e2⟩ := fin k rfl (.inr (by omega))
      exact ⟨_, rfl, by rw [e1], by rw [e2]⟩
    · have hl := glC_len (j.take k)
      have hlk : (j.take k).length = k := by simp; omega
      rw [hlk] at hl
      have ts := glC_snoc j k hlt
      have g0n := g0_glC (j.take (k + 1))
      (repeat (first | (with_reducible refine AWo.cons ?_) | ((with_reducible refine Step.id ?_); first | ((with_reducible apply Step.move); exact rfl; exact rfl) | ((with_reducible apply Step.assign); exact rfl; exact rfl) | ((with_reducible apply Step.loadL (n := 4)); exact rfl; (focus (decide +kernel)); (focus (decide +kernel)); exact rfl; (focus (first | exact RdL.new rfl rfl | exact RdL.old _ (h3 _ hlt))); exact rfl; exact rfl) | ((with_reducible apply Step.ix (s := 4)); exact rfl; (focus (assumption)); exact rfl; (focus (decide +kernel)); exact rfl; (focus (omega))) | ((with_reducible apply Step.lss); exact rfl; exact rfl; exact rfl) | ((with_reducible apply Step.gtr); exact rfl; exact rfl; exact rfl) | ((with_reducible apply Step.callR fit); exact rfl; exact Try.func29; exact rfl; exact rfl; exact (glove_ok _)) | ((with_reducible apply Step.alloc 1); exact rfl; exact ze24; exact rfl; (focus (first | (simp only [List.nil_append, List.cons_append, List.set_cons_zero, List.set_cons_succ, iv_set, bv_set, iv_rep, bv_rep]; done) | (simp only [List.nil_append, List.cons_append, List.set_cons_zero, List.set_cons_succ, iv_set, bv_set, iv_rep, bv_rep]; rfl) | rfl))) | ((with_reducible apply Step.storeA (k := 1) (n := 4)); exact rfl; exact rfl; exact rfl; exact rfl; (focus (decide +kernel)); exact rfl; (focus (kernel_rfl)); exact rfl; (focus (first | (simp only [List.nil_append, List.cons_append, List.set_cons_zero, List.set_cons_succ, iv_set, bv_set, iv_rep, bv_rep]; done) | (simp only [List.nil_append, List.cons_append, List.set_cons_zero, List.set_cons_succ, iv_set, bv_set, iv_rep, bv_rep]; rfl) | rfl))) | ((with_reducible apply Step.buildS 2); exact rfl; exact rfl; exact (fun _ _ => bs31); exact rfl; (focus (first | (simp only [List.nil_append, List.cons_append, List.set_cons_zero, List.set_cons_succ, iv_set, bv_set, iv_rep, bv_rep]; done) | (simp only [List.nil_append, List.cons_append, List.set_cons_zero, List.set_cons_succ, iv_set, bv_set, iv_rep, bv_rep]; rfl) | rfl)))) | (with_reducible refine AWo.nil ?_) | ((with_reducible apply AW.seq)) | ((with_reducible apply Then.n)) | ((with_reducible apply AW.regL)) | ((with_reducible apply AW.block)) | ((with_reducible apply AW.skip)) | ((with_reducible apply AW.condT); exact rfl; (focus ((simp only [decide_eq_true_eq, decide_eq_false_iff_not, Bool.not_eq_true', Bool.not_eq_false', Bool.not_true, Bool.not_false]; first | assumption | omega)))) | ((with_reducible apply AW.condF); exact rfl; (focus ((simp only [decide_eq_true_eq, decide_eq_false_iff_not, Bool.not_eq_true', Bool.not_eq_false', Bool.not_true, Bool.not_false]; first | assumption | omega))))))
      ((with_reducible apply Step.appG (k := 3)); exact rfl; exact rfl; exact rfl; exact el31; exact un31; exact rfl; exact rfl; exact rfl; exact hl; exact rfl; exact rfl; exact rfl; (focus (omega)); exact rfl; (focus (first | (simp only [List.nil_append, List.cons_append, List.set_cons_zero, List.set_cons_succ, iv_set, bv_set, iv_rep, bv_rep]; done) | (simp only [List.nil_append, List.cons_append, List.set_cons_zero, List.set_cons_succ, iv_set, bv_set, iv_rep, bv_rep]; rfl) | rfl)))
      (repeat (first | (with_reducible refine AWo.cons ?_) | ((with_reducible refine Step.id ?_); first | ((with_reducible apply Step.move); exact rfl; exact rfl) | ((with_reducible apply Step.assign); exact rfl; exact rfl) | ((with_reducible apply Step.add); exact rfl; exact rfl; (focus (omega)); exact rfl)) | (with_reducible refine AWo.nil ?_) | ((with_reducible apply Then.n)) | ((with_reducible apply AW.regL)) | ((with_reducible apply InBlk.n))))
      rw [ts] at g0n
      refine ⟨_, [(3, .slice (some ⟨m.length + 0, 0, none⟩) (k + 1) (k + 1)), (6, v), (7, .int .i64 (j.length : Nat)), (8, .int .i64 (k + 1 : Nat))], [some { cells := glC (j.take k) ++ (j.getD k default).cells, kind := .grow, size := 4 }], by omega, (Back.mv 0 3 rfl rfl rfl rfl (by intro j b hj h; rcases j with _ | _ | _ | _ | _ | _ | j <;> simp_all) (by repeat (first | exact CellsOk.nil | refine CellsOk.cons (by assumption) ?_)) (by repeat (first | exact trivial | (refine And.intro ⟨_, rfl, by (first | exact .int _ _ | exact Ren.slice_mv (by first | (simp; done) | omega | (simp; omega)) | exact Ren.of_sl_ne (by assumption) (by first | omega | (simp; omega)) (by first | omega | (simp; omega)))⟩ ?_)))), k + 1, rfl, by omega, by omega, ?_, ?_⟩
      · rw [ts, gb_pos (by simp [Gl.cells])]
      · rw [gv_pos (by omega)]
  · (repeat (first | (with_reducible refine AWo.cons ?_) | ((with_reducible refine Step.id ?_); first | ((with_reducible apply Step.move); exact rfl; exact rfl) | ((with_reducible apply Step.assign); exact rfl; exact rfl) | ((with_reducible apply Step.lss); exact rfl; exact rfl; exact rfl)) | (with_reducible refine AWo.nil ?_) | ((with_reducible apply AW.seq)) | ((with_reducible apply Then.n)) | ((with_reducible apply AW.regL)) | ((with_reducible apply AW.exit)) | ((with_reducible apply InBlk.hit)) | ((with_reducible apply Then.e)) | ((with_reducible apply AW.condF); exact rfl; (focus ((simp only [decide_eq_true_eq, decide_eq_false_iff_not, Bool.not_eq_true', Bool.not_eq_false', Bool.not_true, Bool.not_false]; first | assumption | omega))))))
    refine AW.retB (l := [(2, _)]) (L1 := [gb (glC (j.take k)) 4]) (Back.trim rfl rfl (by repeat (first | exact CellsOk.nil | refine CellsOk.gb (by assumption) ?_)) (by repeat (first | exact trivial | (refine And.intro ⟨rfl, by (exact Ren.of_gv (by first | (simp; done) | omega | (simp; omega)))⟩ ?_)))) ?_
    obtain ⟨e1, e2⟩ := fin k rfl (.inl (by omega))
    exact ⟨_, rfl, by rw [e1], by rw [e2]⟩
/-- A side that the law hands on. -/
theorem take34 (l : List Gl) : sB (l.take 34) = sB l ∧ (sB l = true → l.take 34 = l) := by
  by_cases h : l.length ≤ 34
  · rw [List.take_of_length_le h]; exact ⟨rfl, fun _ => rfl⟩
  · have h1 : sB (l.take 34) = false := by simp [sB]; omega
    have h2 : sB l = false := by simp [sB]; omega
    rw [h1, h2]; exact ⟨rfl, fun h => by cases h⟩
set_option maxRecDepth 100000 in
theorem Side_ok {m : AM} {v : Value} {l : List Gl} (hl : Gls m v l) (hlen : l.length ≤ 9223372036854775807) {b : Bool} (hb : sB l = b) : ACall Try.prog 61 #[v] m (Ret (.bool b) m) := by
  subst hb
  obtain ⟨a, o, h1, h2, h3⟩ := hl
  refine ACall.start Try.func61 rfl rfl ?_
  by_cases hbig : 32 < l.length
  · (repeat (first | (with_reducible refine AWo.cons ?_) | ((with_reducible refine Step.id ?_); first | ((with_reducible apply Step.move); exact rfl; exact rfl) | ((with_reducible apply Step.assign); exact rfl; exact rfl) | ((with_reducible apply Step.gtr); exact rfl; exact rfl; exact rfl) | ((with_reducible apply Step.len); exact rfl; (focus (assumption)); (focus (decide +kernel)); exact rfl)) | (with_reducible refine AWo.nil ?_) | ((with_reducible apply AW.seq)) | ((with_reducible apply Then.n)) | ((with_reducible apply AW.regL)) | ((with_reducible apply AW.condT); exact rfl; (focus ((simp only [decide_eq_true_eq, decide_eq_false_iff_not, Bool.not_eq_true', Bool.not_eq_false', Bool.not_true, Bool.not_false]; first | assumption | omega))))))
    (refine AW.retD (l := [(2, _)]) (by repeat (first | exact trivial | (refine And.intro ⟨rfl, by (exact .bool _)⟩ ?_))) ?_; (repeat (first | refine Then.r ?_ | refine InBlk.r ?_)))
    exact ⟨_, rfl, by simp [sB]; omega, rfl⟩
  · (repeat (first | (with_reducible refine AWo.cons ?_) | ((with_reducible refine Step.id ?_); first | ((with_reducible apply Step.move); exact rfl; exact rfl) | ((with_reducible apply Step.assign); exact rfl; exact rfl) | ((with_reducible apply Step.gtr); exact rfl; exact rfl; exact rfl) | ((with_reducible apply Step.len); exact rfl; (focus (assumption)); (focus (decide +kernel)); exact rfl)) | (with_reducible refine AWo.nil ?_) | ((with_reducible apply AW.seq)) | ((with_reducible apply Then.n)) | ((with_reducible apply AW.regL)) | ((with_reducible apply AW.block)) | ((with_reducible apply AW.skip)) | ((with_reducible apply AW.condF); exact rfl; (focus ((simp only [decide_eq_true_eq, decide_eq_false_iff_not, Bool.not_eq_true', Bool.not_eq_false', Bool.not_true, Bool.not_false]; first | assumption | omega))))))
    refine AW.loopT (fun n t L => ∃ k : Nat, n = l.length - k ∧ k ≤ l.length ∧ (∀ i, i < k → gB (l.getD i default) = true) ∧ L = [] ∧
      t = [(8, v), (9, .int .i64 (l.length : Nat)), (10, .int .i64 (k : Nat))]) ⟨_, _, _, (Or.inl ⟨rfl, (by repeat (first | exact trivial | (refine And.intro rfl ?_)))⟩), 0, rfl, Nat.zero_le _, by omega, rfl, rfl⟩ ?_
    rintro n t L ⟨k, rfl, hk, hz, rfl, rfl⟩
    rcases Nat.lt_or_ge k l.length with hlt | hge
    · have hv := fun T => valid_ok (m := m ++ T) (l.getD k default) rfl
      cases hg : gB (l.getD k default) with
      | true =>
        rw [hg] at hv
        (repeat (first | (with_reducible refine AWo.cons ?_) | ((with_reducible refine Step.id ?_); first | ((with_reducible apply Step.move); exact rfl; exact rfl) | ((with_reducible apply Step.loadL (n := 4)); exact rfl; (focus (decide +kernel)); (focus (decide +kernel)); exact rfl; (focus (first | exact RdL.new rfl rfl | exact RdL.old _ (h3 _ hlt))); exact rfl; exact rfl) | ((with_reducible apply Step.ix (s := 4)); exact rfl; (focus (assumption)); exact rfl; (focus (decide +kernel)); exact rfl; (focus (omega))) | ((with_reducible apply Step.add); exact rfl; exact rfl; (focus (omega)); exact rfl) | ((with_reducible apply Step.lss); exact rfl; exact rfl; exact rfl) | ((with_reducible apply Step.not); exact rfl; exact rfl) | ((with_reducible apply Step.callR fit); exact rfl; exact Try.func67; exact rfl; exact rfl; exact (hv _)) | ((with_reducible apply Step.alloc 0); exact rfl; exact ze24; exact rfl; (focus (first | (simp only [List.nil_append, List.cons_append, List.set_cons_zero, List.set_cons_succ, iv_set, bv_set, iv_rep, bv_rep]; done) | (simp only [List.nil_append, List.cons_append, List.set_cons_zero, List.set_cons_succ, iv_set, bv_set, iv_rep, bv_rep]; rfl) | rfl))) | ((with_reducible apply Step.storeA (k := 0) (n := 4)); exact rfl; exact rfl; exact rfl; exact rfl; (focus (decide +kernel)); exact rfl; (focus (kernel_rfl)); exact rfl; (focus (first | (simp only [List.nil_append, List.cons_append, List.set_cons_zero, List.set_cons_succ, iv_set, bv_set, iv_rep, bv_rep]; done) | (simp only [List.nil_append, List.cons_append, List.set_cons_zero, List.set_cons_succ, iv_set, bv_set, iv_rep, bv_rep]; rfl) | rfl)))) | (with_reducible refine AWo.nil ?_) | ((with_reducible apply AW.seq)) | ((with_reducible apply Then.n)) | ((with_reducible apply AW.regL)) | ((with_reducible apply AW.block)) | ((with_reducible apply InBlk.n)) | ((with_reducible apply AW.skip)) | ((with_reducible apply AW.condT); exact rfl; (focus ((simp only [decide_eq_true_eq, decide_eq_false_iff_not, Bool.not_eq_true', Bool.not_eq_false', Bool.not_true, Bool.not_false]; first | assumption | omega)))) | ((with_reducible apply AW.condF); exact rfl; (focus (rfl)))))
        refine ⟨_, _, [], ?_, (Back.trim rfl rfl (by repeat (exact CellsOk.nil)) (by repeat (first | exact trivial | (refine And.intro ⟨rfl, by (first | exact .int _ _ | exact Ren.of_sl (by assumption) (by first | omega | (simp; omega)))⟩ ?_)))), k + 1, rfl, by omega, fun i hi => ?_, rfl, rfl⟩
        · omega
        · by_cases e : i = k
          · subst e; exact hg
          · exact hz i (by omega)
      | false =>
        rw [hg] at hv
        have hn : sB l = false := by
          cases e : sB l with
          | false => rfl
          | true =>
            have : l.length ≤ 32 ∧ l.all gB = true := by simpa [sB] using e
            rw [all_getD this.2 hlt] at hg; cases hg
        (repeat (first | (with_reducible refine AWo.cons ?_) | ((with_reducible refine Step.id ?_); first | ((with_reducible apply Step.assign); exact rfl; exact rfl) | ((with_reducible apply Step.loadL (n := 4)); exact rfl; (focus (decide +kernel)); (focus (decide +kernel)); exact rfl; (focus (first | exact RdL.new rfl rfl | exact RdL.old _ (h3 _ hlt))); exact rfl; exact rfl) | ((with_reducible apply Step.ix (s := 4)); exact rfl; (focus (assumption)); exact rfl; (focus (decide +kernel)); exact rfl; (focus (omega))) | ((with_reducible apply Step.lss); exact rfl; exact rfl; exact rfl) | ((with_reducible apply Step.not); exact rfl; exact rfl) | ((with_reducible apply Step.callR fit); exact rfl; exact Try.func67; exact rfl; exact rfl; exact (hv _)) | ((with_reducible apply Step.alloc 0); exact rfl; exact ze24; exact rfl; (focus (first | (simp only [List.nil_append, List.cons_append, List.set_cons_zero, List.set_cons_succ, iv_set, bv_set, iv_rep, bv_rep]; done) | (simp only [List.nil_append, List.cons_append, List.set_cons_zero, List.set_cons_succ, iv_set, bv_set, iv_rep, bv_rep]; rfl) | rfl))) | ((with_reducible apply Step.storeA (k := 0) (n := 4)); exact rfl; exact rfl; exact rfl; exact rfl; (focus (decide +kernel)); exact rfl; (focus (kernel_rfl)); exact rfl; (focus (first | (simp only [List.nil_append, List.cons_append, List.set_cons_zero, List.set_cons_succ, iv_set, bv_set, iv_rep, bv_rep]; done) | (simp only [List.nil_append, List.cons_append, List.set_cons_zero, List.set_cons_succ, iv_set, bv_set, iv_rep, bv_rep]; rfl) | rfl)))) | (with_reducible refine AWo.nil ?_) | ((with_reducible apply AW.seq)) | ((with_reducible apply Then.n)) | ((with_reducible apply AW.regL)) | ((with_reducible apply AW.block)) | ((with_reducible apply AW.skip)) | ((with_reducible apply AW.condT); exact rfl; (focus (first | rfl | (simp only [decide_eq_true_eq, decide_eq_false_iff_not, Bool.not_eq_true', Bool.not_eq_false', Bool.not_true, Bool.not_false]; first | assumption | omega))))))
        (refine AW.retD (l := [(2, _)]) (by repeat (first | exact trivial | (refine And.intro ⟨rfl, by (exact .bool _)⟩ ?_))) ?_; (repeat (first | refine Then.r ?_ | refine InBlk.r ?_)))
        exact ⟨_, rfl, by rw [hn], rfl⟩
    · (repeat (first | (with_reducible refine AWo.cons ?_) | ((with_reducible refine Step.id ?_); first | ((with_reducible apply Step.assign); exact rfl; exact rfl) | ((with_reducible apply Step.lss); exact rfl; exact rfl; exact rfl)) | (with_reducible refine AWo.nil ?_) | ((with_reducible apply AW.seq)) | ((with_reducible apply Then.n)) | ((with_reducible apply AW.regL)) | ((with_reducible apply AW.exit)) | ((with_reducible apply InBlk.hit)) | ((with_reducible apply Then.e)) | ((with_reducible apply AW.condF); exact rfl; (focus ((simp only [decide_eq_true_eq, decide_eq_false_iff_not, Bool.not_eq_true', Bool.not_eq_false', Bool.not_true, Bool.not_false]; first | assumption | omega))))))
      obtain rfl : k = l.length := by omega
      have hy : sB l = true := by
        simp only [sB, Bool.and_eq_true, decide_eq_true_eq, List.all_eq_true]
        refine ⟨by omega, fun x hx => ?_⟩
        obtain ⟨i, hi, rfl⟩ := List.getElem_of_mem hx
        have := hz i hi
        simpa [hi] using this
      (refine AW.retD (l := [(2, _)]) (by repeat (first | exact trivial | (refine And.intro ⟨rfl, by (exact .bool _)⟩ ?_))) ?_; (repeat (first | refine Then.r ?_ | refine InBlk.r ?_)))
      exact ⟨_, rfl, by rw [hy], rfl⟩
set_option maxRecDepth 100000 in
theorem Good_ok {m : AM} {lv rv : Value} {L R : List Gl} {u : Ru} (hl : Gls m lv L) (hr : Gls m rv R) (h1 : L.length ≤ 9223372036854775807) (h2 : R.length ≤ 9223372036854775807) {b : Bool} (hb : (sB L && sB R && uB u) = b) : ACall Try.prog 26 #[lv, rv, u.v] m (Ret (.bool b) m) := by
  subst hb
  have c1 := fun T => Side_ok (hl.old T) h1 rfl
  have c2 := fun T => Side_ok (hr.old T) h2 rfl
  have c3 := fun T => law_ok (m := m ++ T) u rfl
  refine ACall.start Try.func26 rfl rfl ?_
  cases e1 : sB L with
  | false =>
    rw [e1] at c1
    (repeat (first | (with_reducible refine AWo.cons ?_) | ((with_reducible refine Step.id ?_); first | ((with_reducible apply Step.gdF); exact rfl; exact rfl; (focus (rfl))) | ((with_reducible apply Step.move); exact rfl; exact rfl) | ((with_reducible apply Step.assign); exact rfl; exact rfl) | ((with_reducible apply Step.pickF); exact rfl; exact rfl; exact rfl; exact rfl; (focus (rfl))) | ((with_reducible apply Step.callR fit); exact rfl; exact Try.func61; exact rfl; exact rfl; exact (c1 _)) | ((with_reducible apply Step.box 0); exact rfl; exact rfl; (focus (kernel_rfl)); exact rfl; (focus (first | (simp only [List.nil_append, List.cons_append, List.set_cons_zero, List.set_cons_succ, iv_set, bv_set, iv_rep, bv_rep]; done) | (simp only [List.nil_append, List.cons_append, List.set_cons_zero, List.set_cons_succ, iv_set, bv_set, iv_rep, bv_rep]; rfl) | rfl)))) | (with_reducible refine AWo.nil ?_) | ((with_reducible apply AW.seq)) | ((with_reducible apply Then.n)) | ((with_reducible apply AW.regL))))
    (refine AW.retD (l := [(6, _)]) (by repeat (first | exact trivial | (refine And.intro ⟨rfl, by (exact .bool _)⟩ ?_))) ?_; (repeat (first | refine Then.r ?_ | refine InBlk.r ?_)))
    exact ⟨_, rfl, rfl, rfl⟩
  | true =>
    rw [e1] at c1
    cases e2 : sB R with
    | false =>
      rw [e2] at c2
      (repeat (first | (with_reducible refine AWo.cons ?_) | ((with_reducible refine Step.id ?_); first | ((with_reducible apply Step.gdT); exact rfl; exact rfl; (focus (rfl))) | ((with_reducible apply Step.gdF); exact rfl; exact rfl; (focus (rfl))) | ((with_reducible apply Step.move); exact rfl; exact rfl) | ((with_reducible apply Step.assign); exact rfl; exact rfl) | ((with_reducible apply Step.pickT); exact rfl; exact rfl; exact rfl; exact rfl; (focus (rfl))) | ((with_reducible apply Step.pickF); exact rfl; exact rfl; exact rfl; exact rfl; (focus (rfl))) | ((with_reducible apply Step.callR fit); exact rfl; exact Try.func61; exact rfl; exact rfl; exact (c1 _)) | ((with_reducible apply Step.callR fit); exact rfl; exact Try.func61; exact rfl; exact rfl; exact (c2 _)) | ((with_reducible apply Step.box 0); exact rfl; exact rfl; (focus (kernel_rfl)); exact rfl; (focus (first | (simp only [List.nil_append, List.cons_append, List.set_cons_zero, List.set_cons_succ, iv_set, bv_set, iv_rep, bv_rep]; done) | (simp only [List.nil_append, List.cons_append, List.set_cons_zero, List.set_cons_succ, iv_set, bv_set, iv_rep, bv_rep]; rfl) | rfl)))) | (with_reducible refine AWo.nil ?_) | ((with_reducible apply AW.seq)) | ((with_reducible apply Then.n)) | ((with_reducible apply AW.regL))))
      (refine AW.retD (l := [(6, _)]) (by repeat (first | exact trivial | (refine And.intro ⟨rfl, by (exact .bool _)⟩ ?_))) ?_; (repeat (first | refine Then.r ?_ | refine InBlk.r ?_)))
      exact ⟨_, rfl, rfl, rfl⟩
    | true =>
      rw [e2] at c2
      (repeat (first | (with_reducible refine AWo.cons ?_) | ((with_reducible refine Step.id ?_); first | ((with_reducible apply Step.gdT); exact rfl; exact rfl; (focus (rfl))) | ((with_reducible apply Step.move); exact rfl; exact rfl) | ((with_reducible apply Step.assign); exact rfl; exact rfl) | ((with_reducible apply Step.loadL (n := 8)); exact rfl; (focus (decide +kernel)); (focus (decide +kernel)); exact rfl; (focus (exact RdL.new rfl rfl)); exact rfl; exact rfl) | ((with_reducible apply Step.pickT); exact rfl; exact rfl; exact rfl; exact rfl; (focus (rfl))) | ((with_reducible apply Step.callR fit); exact rfl; exact Try.func61; exact rfl; exact rfl; exact (c1 _)) | ((with_reducible apply Step.callR fit); exact rfl; exact Try.func61; exact rfl; exact rfl; exact (c2 _)) | ((with_reducible apply Step.callR fit); exact rfl; exact Try.func62; exact rfl; exact rfl; exact (c3 _)) | ((with_reducible apply Step.box 0); exact rfl; exact rfl; (focus (kernel_rfl)); exact rfl; (focus (first | (simp only [List.nil_append, List.cons_append, List.set_cons_zero, List.set_cons_succ, iv_set, bv_set, iv_rep, bv_rep]; done) | (simp only [List.nil_append, List.cons_append, List.set_cons_zero, List.set_cons_succ, iv_set, bv_set, iv_rep, bv_rep]; rfl) | rfl)))) | (with_reducible refine AWo.nil ?_) | ((with_reducible apply AW.seq)) | ((with_reducible apply Then.n)) | ((with_reducible apply AW.regL))))
      (refine AW.retD (l := [(6, _)]) (by repeat (first | exact trivial | (refine And.intro ⟨rfl, by (exact .bool _)⟩ ?_))) ?_; (repeat (first | refine Then.r ?_ | refine InBlk.r ?_)))
      exact ⟨_, rfl, by simp, rfl⟩
end Go.Proofs.Ytajpngnphbdnnaa.Abs
namespace Go.Proofs.Ytajpngnphbdnnaa.Abs
set_option linter.unusedSimpArgs false
set_option linter.unusedVariables false
open Go.RowKit
open Go.Proofs.Ytajpngnphbdnnaa.Sim
open Go.Proofs
theorem Ren.tupG {ρ : Nat → Nat} {n : Nat} (l : List Value) (h : l.all g0 = true) : Ren ρ n (.tuple l.toArray) (.tuple l.toArray) :=
  .tuple _ _ rfl fun i hi => by
    have hi' : i < l.length := by simpa using hi
    have : l.toArray.getD i undef = l[i] := by simp [hi']
    rw [this]; exact .of_g0 (List.all_eq_true.1 h _ (List.getElem_mem hi'))
end Go.Proofs.Ytajpngnphbdnnaa.Abs
namespace Go.Proofs.Ytajpngnphbdnnaa.Abs
set_option linter.unusedSimpArgs false
set_option linter.unusedVariables false
open Go.RowKit
open Go.Proofs.Ytajpngnphbdnnaa.Sim
open Go.Proofs
/-- The table as a slice of rows. -/
def RT (m : AM) (v : Value) (c : Nat → Nat → Int) (l r : Nat) : Prop := ∃ b o, Sl v b o l ∧ b < m.length ∧ ∀ i, i < l → ∃ w, Rd m b (o + i) w ∧ Ints m w (tab (c i) r)
theorem RT.old {m : AM} {v : Value} {c : Nat → Nat → Int} {l r : Nat} (L : AM) (h : RT m v c l r) : RT (m ++ L) v c l r := by
  obtain ⟨b, o, h5, h6, h7⟩ := h
  exact ⟨b, o, h5, by simp; omega, fun i hi => by
    obtain ⟨w, k1, k2⟩ := h7 i hi
    exact ⟨w, k1.old L, k2.old L⟩⟩
end Go.Proofs.Ytajpngnphbdnnaa.Abs
namespace Go.Proofs.Ytajpngnphbdnnaa.Hung
set_option linter.unusedSimpArgs false
set_option linter.unusedVariables false
def Ed (c : Nat → Nat → Int) (l r : Nat) (gl gr : Nat → Bool) (i j : Nat) : Prop := i < l ∧ j < r ∧ gl i = false ∧ gr j = false ∧ 0 ≤ c i j
def Wt (c : Nat → Nat → Int) (i j : Nat) : Int := 1000000000 - c i j
/-- What a way gains up to a left glove. -/
def stI (c : Nat → Nat → Int) (gain to : Nat → Int) (i : Nat) : Int := if 0 ≤ to i then gain (to i).toNat - Wt c i (to i).toNat else 0
structure Mt (c : Nat → Nat → Int) (l r : Nat) (gl gr : Nat → Bool) (of to : Nat → Int) : Prop where
  t1 : ∀ i, i < l → to i = -1 ∨ ∃ j : Nat, to i = j ∧ Ed c l r gl gr i j ∧ of j = i
  o1 : ∀ j, j < r → of j = -1 ∨ ∃ i : Nat, of j = i ∧ Ed c l r gl gr i j ∧ to i = j
structure Pc (c : Nat → Nat → Int) (l r : Nat) (gl gr : Nat → Bool) (of to a b : Nat → Int) (A : Int) : Prop where
  A0 : 0 ≤ A
  aA : ∀ i, i < l → gl i = false → A ≤ a i ∧ (to i = -1 → a i = A)
  b0 : ∀ j, j < r → gr j = false → 0 ≤ b j ∧ (of j = -1 → b j = 0)
  fe : ∀ i j, Ed c l r gl gr i j → Wt c i j ≤ a i + b j
  ti : ∀ (i j : Nat), i < l → to i = j → a i + b j = Wt c i j
  bA : A ≤ 1000000000
section
variable {c : Nat → Nat → Int} {l r : Nat} {gl gr : Nat → Bool} {of to a b gain : Nat → Int} {fm tau : Nat → Nat} {rl : List Nat} {T : Nat} {A : Int}
/-- How much less than the prices allow the way to a right glove gains. -/
def xs (A : Int) (b gain : Nat → Int) (j : Nat) : Int := A + b j - gain j
/-- The ways found so far: rl are the right gloves that are reached. -/
structure Wy (c : Nat → Nat → Int) (l r : Nat) (gl gr : Nat → Bool) (to b : Nat → Int) (A : Int) (gain : Nat → Int) (fm : Nat → Nat) (rl : List Nat) (tau : Nat → Nat) (T : Nat) : Prop where
  nd : rl.Nodup
  rr : ∀ j ∈ rl, j < r
  un : ∀ j, j < r → j ∉ rl → gain j = -1152921504606846976
  lo : ∀ j ∈ rl, -1000000000 * (rl.length : Int) ≤ gain j
  hi : ∀ j ∈ rl, gain j ≤ A + b j
  ed : ∀ j ∈ rl, Ed c l r gl gr (fm j) j ∧ to (fm j) ≠ j
  ub : ∀ j ∈ rl, gain j ≤ stI c gain to (fm j) + Wt c (fm j) j
  pa : ∀ j ∈ rl, to (fm j) = -1 ∨ ∃ p : Nat, to (fm j) = p ∧ p ∈ rl ∧ (xs A b gain p < xs A b gain j ∨ (xs A b gain p = xs A b gain j ∧ tau p < tau j))
  ta : ∀ j, tau j < T
theorem Wy.start (to b : Nat → Int) (A : Int) (fm : Nat → Nat) : Wy c l r gl gr to b A (fun _ => -1152921504606846976) fm [] (fun _ => 0) 1 :=
  ⟨List.nodup_nil, fun _ h => (by cases h), fun _ _ _ => rfl, fun _ h => (by cases h), fun _ h => (by cases h), fun _ h => (by cases h), fun _ h => (by cases h), fun _ h => (by cases h), fun _ => by omega⟩
theorem Wy.len (h : Wy c l r gl gr to b A gain fm rl tau T) : rl.length ≤ r := by
  have := nodup_le h.nd (k := List.range r) fun x hx => List.mem_range.2 (h.rr x hx)
  simpa using this
/-- A left glove from which a way may go on. -/
def Rd (to : Nat → Int) (rl : List Nat) (i : Nat) : Prop := to i = -1 ∨ ∃ p : Nat, to i = p ∧ p ∈ rl
theorem st_free {i : Nat} (h : to i = -1) : stI c gain to i = 0 := if_neg (by omega)
theorem st_at {i p : Nat} (h : to i = p) : stI c gain to i = gain p - Wt c i p := by
  unfold stI
  rw [h, if_pos (by omega), Int.toNat_natCast]
theorem st_le (hP : Pc c l r gl gr of to a b A) (hW : Wy c l r gl gr to b A gain fm rl tau T) {i : Nat} (hi : i < l) (hg : gl i = false) (hR : Rd to rl i) : stI c gain to i ≤ A - a i := by
  rcases hR with h | ⟨p, h, hp⟩
  · rw [st_free h, (hP.aA i hi hg).2 h]; omega
  · rw [st_at h]
    have := hP.ti i p hi h
    have := hW.hi p hp
    omega
theorem Wy.step (hW : Wy c l r gl gr to b A gain fm rl tau T) (hP : Pc c l r gl gr of to a b A) (hinj : ∀ (i i' j : Nat), i < l → i' < l → to i = j → to i' = j → i = i') {i j : Nat} (he : Ed c l r gl gr i j) (hne : to i ≠ j) (hR : Rd to rl i) (hlt : gain j < stI c gain to i + Wt c i j)
    (hlb : -1000000000 * (rl.length : Int) ≤ stI c gain to i + 1000000000) (hw : 0 ≤ Wt c i j) :
    Wy c l r gl gr to b A (up gain j (stI c gain to i + Wt c i j)) (up fm j i) (if j ∈ rl then rl else j :: rl) (up tau j T) (T + 1) := by
  have hst := st_le hP hW he.1 he.2.2.1 hR
  have hfe := hP.fe i j he
  generalize hs : stI c gain to i = s at *
  have hmem : ∀ q, q ∈ (if j ∈ rl then rl else j :: rl) ↔ q = j ∨ q ∈ rl := fun q => by
    split
    · rename_i h
      exact ⟨.inr, fun h' => h'.elim (fun e => e ▸ h) id⟩
    · simp
  have hlen : (rl.length : Int) ≤ ((if j ∈ rl then rl else j :: rl).length : Nat) := by
    split
    · omega
    · simp only [List.length_cons]; omega
  have gup : ∀ q, q ≠ j → up gain j (s + Wt c i j) q = gain q := fun q h => up_ne _ _ h
  have fup : ∀ q, q ≠ j → up fm j i q = fm q := fun q h => up_ne _ _ h
  have xne : ∀ q, q ≠ j → xs A b (up gain j (s + Wt c i j)) q = xs A b gain q := fun q h => by unfold xs; rw [gup q h]
  have xj : xs A b (up gain j (s + Wt c i j)) j < xs A b gain j := by unfold xs; rw [up_same]; omega
  have stm : ∀ q, stI c gain to q ≤ stI c (up gain j (s + Wt c i j)) to q := fun q => by
    unfold stI
    split
    · by_cases e : (to q).toNat = j
      · rw [e, up_same]; omega
      · rw [gup _ e]; exact Int.le_refl _
    · exact Int.le_refl _
  have stj : stI c (up gain j (s + Wt c i j)) to i = s := by
    rw [← hs]
    rcases hR with h | ⟨p, h, _⟩
    · rw [st_free h, st_free h]
    · have : p ≠ j := fun e => hne (by rw [h, e])
      rw [st_at h, st_at h, up_ne _ _ this]
  refine ⟨?_, fun q hq => ?_, fun q hq hn => ?_, fun q hq => ?_, fun q hq => ?_, fun q hq => ?_, fun q hq => ?_, fun q hq => ?_, fun q => ?_⟩
  · split
    · exact hW.nd
    · rename_i h; exact List.nodup_cons.2 ⟨h, hW.nd⟩
  · rcases (hmem q).1 hq with e | h
    · rw [e]; exact he.2.1
    · exact hW.rr q h
  · have h1 : q ≠ j := fun e => hn ((hmem q).2 (.inl e))
    have h2 : q ∉ rl := fun h => hn ((hmem q).2 (.inr h))
    rw [gup q h1]; exact hW.un q hq h2
  · by_cases e : q = j
    · rw [e, up_same]
      by_cases hj : j ∈ rl
      · have := hW.lo j hj
        simp only [if_pos hj]; omega
      · simp only [if_neg hj, List.length_cons]; omega
    · rw [gup q e]
      have h := ((hmem q).1 hq).resolve_left e
      have := hW.lo q h
      omega
  · by_cases e : q = j
    · rw [e, up_same]; omega
    · rw [gup q e]; exact hW.hi q (((hmem q).1 hq).resolve_left e)
  · by_cases e : q = j
    · rw [e, up_same]; exact ⟨he, hne⟩
    · rw [fup q e]; exact hW.ed q (((hmem q).1 hq).resolve_left e)
  · by_cases e : q = j
    · rw [e, up_same, up_same, stj]; exact Int.le_refl _
    · rw [gup q e, fup q e]
      have := hW.ub q (((hmem q).1 hq).resolve_left e)
      have := stm (fm q)
      omega
  · by_cases e : q = j
    · subst e
      rw [up_same, up_same]
      rcases hR with h | ⟨p, h, hp⟩
      · exact .inl h
      · have hpj : p ≠ q := fun e => hne (by rw [h, e])
        refine .inr ⟨p, h, (hmem p).2 (.inr hp), ?_⟩
        rw [xne p hpj, up_ne _ _ hpj]
        have ht := hP.ti i p he.1 h
        have hs2 := st_at (c := c) (gain := gain) h
        have := hW.ta p
        unfold xs
        rw [up_same]
        omega
    · rw [fup q e, up_ne _ _ e]
      rcases hW.pa q (((hmem q).1 hq).resolve_left e) with h | ⟨p, h, hp, ho⟩
      · exact .inl h
      · refine .inr ⟨p, h, (hmem p).2 (.inr hp), ?_⟩
        rw [xne q e]
        by_cases ep : p = j
        · subst ep
          left; omega
        · rw [xne p ep, up_ne _ _ ep]; exact ho
  · by_cases e : q = j
    · rw [e, up_same]; omega
    · rw [up_ne _ _ e]; have := hW.ta q; omega
/-- Nothing gains any more. -/
def Fx (c : Nat → Nat → Int) (l r : Nat) (gl gr : Nat → Bool) (to gain : Nat → Int) (rl : List Nat) : Prop := ∀ i j, Ed c l r gl gr i j → to i ≠ j → Rd to rl i → stI c gain to i + Wt c i j ≤ gain j
end
end Go.Proofs.Ytajpngnphbdnnaa.Hung
namespace Go.Proofs.Ytajpngnphbdnnaa.Hung
set_option linter.unusedSimpArgs false
set_option linter.unusedVariables false
section
variable {c : Nat → Nat → Int} {l r : Nat} {gl gr : Nat → Bool} {of to a b gain : Nat → Int} {fm tau : Nat → Nat} {rl : List Nat} {T : Nat} {A D : Int}
/-- How far a left glove is. -/
def ys (A : Int) (b gain to : Nat → Int) (i : Nat) : Int := if 0 ≤ to i then xs A b gain (to i).toNat else 0
theorem ys_free {i : Nat} (h : to i = -1) : ys A b gain to i = 0 := if_neg (by omega)
theorem ys_at {i p : Nat} (h : to i = p) : ys A b gain to i = xs A b gain p := by
  unfold ys; rw [h, if_pos (by omega), Int.toNat_natCast]
theorem xs_nonneg (hP : Pc c l r gl gr of to a b A) (hW : Wy c l r gl gr to b A gain fm rl tau T) {j : Nat} (hj : j < r) (hg : gr j = false) : 0 ≤ xs A b gain j := by
  by_cases h : j ∈ rl
  · have := hW.hi j h; unfold xs; omega
  · have := hW.un j hj h
    have := (hP.b0 j hj hg).1
    have := hP.A0
    unfold xs; omega
theorem ys_nonneg (hM : Mt c l r gl gr of to) (hP : Pc c l r gl gr of to a b A) (hW : Wy c l r gl gr to b A gain fm rl tau T) {i : Nat} (hi : i < l) : 0 ≤ ys A b gain to i := by
  rcases hM.t1 i hi with h | ⟨j, h, he, _⟩
  · rw [ys_free h]; exact Int.le_refl _
  · rw [ys_at h]; exact xs_nonneg hP hW he.2.1 he.2.2.2.1
/-- The prices moved by D, by how far each glove is. -/
def na (A D : Int) (a b gain to : Nat → Int) (i : Nat) : Int := a i - D + min (ys A b gain to i) D
def nb (A D : Int) (b gain : Nat → Int) (j : Nat) : Int := b j + D - min (xs A b gain j) D
theorem Pc.move (hM : Mt c l r gl gr of to) (hP : Pc c l r gl gr of to a b A) (hW : Wy c l r gl gr to b A gain fm rl tau T) (hF : Fx c l r gl gr to gain rl) (h0 : 0 ≤ D) (hDA : D ≤ A) (hfree : ∀ j, j < r → gr j = false → of j = -1 → D ≤ xs A b gain j) :
    Pc c l r gl gr of to (na A D a b gain to) (nb A D b gain) (A - D) := by
  have hbA := hP.bA
  refine ⟨by omega, fun i hi hg => ?_, fun j hj hg => ?_, fun i j he => ?_, fun i j hi h => ?_, by omega⟩
  · have h1 := (hP.aA i hi hg).1
    have h2 := ys_nonneg hM hP hW hi
    refine ⟨by unfold na; omega, fun h => ?_⟩
    have := (hP.aA i hi hg).2 h
    unfold na; rw [ys_free h]; omega
  · have h1 := (hP.b0 j hj hg).1
    refine ⟨by unfold nb; omega, fun h => ?_⟩
    have h2 := (hP.b0 j hj hg).2 h
    have h3 := hfree j hj hg h
    unfold nb; omega
  · have hfe := hP.fe i j he
    have key : min (xs A b gain j) D ≤ min (ys A b gain to i) D + (a i + b j - Wt c i j) := by
      by_cases hij : to i = j
      · rw [ys_at hij]; omega
      · rcases hM.t1 i he.1 with h | ⟨p, h, hep, _⟩
        · have h1 := hF i j he hij (.inl h)
          rw [st_free h] at h1
          rw [ys_free h]
          have := (hP.aA i he.1 he.2.2.1).2 h
          unfold xs; omega
        · by_cases hp : p ∈ rl
          · have h1 := hF i j he hij (.inr ⟨p, h, hp⟩)
            rw [st_at h] at h1
            rw [ys_at h]
            have := hP.ti i p he.1 h
            unfold xs; omega
          · rw [ys_at h]
            have h1 := hW.un p hep.2.1 hp
            have h2 := (hP.b0 p hep.2.1 hep.2.2.2.1).1
            unfold xs; omega
    unfold na nb; omega
  · rcases hM.t1 i hi with h' | ⟨p, h', hep, _⟩
    · rw [h] at h'; omega
    · have := hP.ti i j hi h
      unfold na nb; rw [ys_at h]; omega
/-- Prices are no greater than what a pair is worth. -/
theorem Pc.b_le (hM : Mt c l r gl gr of to) (hP : Pc c l r gl gr of to a b A) {j : Nat} (hj : j < r) (hg : gr j = false) : b j ≤ 1000000000 := by
  rcases hM.o1 j hj with h | ⟨i, h, he, ht⟩
  · rw [(hP.b0 j hj hg).2 h]; omega
  · have h1 := hP.ti i j he.1 ht
    have h2 := (hP.aA i he.1 he.2.2.1).1
    have h3 := hP.A0
    have h4 := he.2.2.2.2
    unfold Wt at h1; omega
theorem Pc.start (c : Nat → Nat → Int) (l r : Nat) (gl gr : Nat → Bool) : Pc c l r gl gr (fun _ => -1) (fun _ => -1) (fun _ => 1000000000) (fun _ => 0) 1000000000 :=
  ⟨by omega, fun _ _ _ => ⟨Int.le_refl _, fun _ => rfl⟩, fun _ _ _ => ⟨Int.le_refl _, fun _ => rfl⟩, fun i j he => by have := he.2.2.2.2; unfold Wt; omega, fun i j _ h => by omega, Int.le_refl _⟩
theorem Mt.start (c : Nat → Nat → Int) (l r : Nat) (gl gr : Nat → Bool) : Mt c l r gl gr (fun _ => -1) (fun _ => -1) := ⟨fun _ _ => .inl rfl, fun _ _ => .inl rfl⟩
/-- What the pairs are worth. -/
def valT (c : Nat → Nat → Int) (to : Nat → Int) (l : Nat) : Int := sN (fun i => if 0 ≤ to i then Wt c i (to i).toNat else 0) l
/-- Along a way: the right glove j has lost its partner. -/
structure Pg (c : Nat → Nat → Int) (l r : Nat) (gl gr : Nat → Bool) (of0 to0 : Nat → Int) (a b gain : Nat → Int) (rl : List Nat) (rk : Nat → Nat) (A D V : Int) (of to : Nat → Int) (j : Nat) : Prop where
  jr : j ∈ rl
  jD : xs A b gain j ≤ D
  t1 : ∀ i, i < l → to i = -1 ∨ ∃ q : Nat, to i = q ∧ Ed c l r gl gr i q ∧ of q = i ∧ q ≠ j
  o1 : ∀ q, q < r → q ≠ j → of q = -1 ∨ ∃ i : Nat, of q = i ∧ Ed c l r gl gr i q ∧ to i = q
  kp : ∀ i, i < l → to i = to0 i ∨ ∃ k : Nat, to0 i = k ∧ rk j ≤ rk k ∧ k ∈ rl
  vi : ∀ i, i < l → to i = -1 → to0 i = -1
  fo : ∀ q, q < r → q ≠ j → of q = -1 → of0 q = -1
  ti : ∀ (i q : Nat), i < l → to i = q → na A D a b gain to0 i + nb A D b gain q = Wt c i q
  su : valT c to l + gain j = V
theorem Pg.start (hM : Mt c l r gl gr of to) (hP : Pc c l r gl gr of to a b A) (hP' : Pc c l r gl gr of to (na A D a b gain to) (nb A D b gain) (A - D)) (rk : Nat → Nat) {j : Nat} (hj : j ∈ rl) (hjr : j < r) (hx : xs A b gain j ≤ D) (hf : of j = -1) :
    Pg c l r gl gr of to a b gain rl rk A D (valT c to l + gain j) of to j := by
  refine ⟨hj, hx, fun i hi => ?_, fun q hq _ => hM.o1 q hq, fun _ _ => .inl rfl, fun _ _ h => h, fun _ _ _ h => h, fun i q hi h => hP'.ti i q hi h, rfl⟩
  rcases hM.t1 i hi with h | ⟨q, h1, h2, h3⟩
  · exact .inl h
  · exact .inr ⟨q, h1, h2, h3, fun e => by rw [e] at h3; omega⟩
theorem valT_up (c : Nat → Nat → Int) (to : Nat → Int) {l i : Nat} (j : Nat) (hi : i < l) : valT c (up to i (j : Int)) l = valT c to l + (Wt c i j - (if 0 ≤ to i then Wt c i (to i).toNat else 0)) := by
  unfold valT
  have : (fun k => if 0 ≤ up to i (j : Int) k then Wt c k (up to i (j : Int) k).toNat else 0) = up (fun k => if 0 ≤ to k then Wt c k (to k).toNat else 0) i (Wt c i j) := by
    funext k
    by_cases e : k = i
    · subst e; rw [up_same, up_same, if_pos (by omega), Int.toNat_natCast]
    · rw [up_ne _ _ e, up_ne _ _ e]
  rw [this, sN_up, if_pos hi]
theorem Pg.step (hP : Pc c l r gl gr of to a b A) (hW : Wy c l r gl gr to b A gain fm rl tau T) (hF : Fx c l r gl gr to gain rl) {rk : Nat → Nat} (hrk : ∀ j ∈ rl, to (fm j) = -1 ∨ ∃ p : Nat, to (fm j) = p ∧ p ∈ rl ∧ rk p < rk j) {V : Int} {of' to' : Nat → Int} {j : Nat}
    (h : Pg c l r gl gr of to a b gain rl rk A D V of' to' j) :
    to' (fm j) = to (fm j) ∧ fm j < l ∧
    (to (fm j) = -1 → Mt c l r gl gr (up of' j (fm j : Int)) (up to' (fm j) (j : Int)) ∧ (∀ i, i < l → up to' (fm j) (j : Int) i = -1 → to i = -1) ∧ (∀ q, q < r → up of' j (fm j : Int) q = -1 → of q = -1) ∧
      (∀ (i q : Nat), i < l → up to' (fm j) (j : Int) i = q → na A D a b gain to i + nb A D b gain q = Wt c i q) ∧ valT c (up to' (fm j) (j : Int)) l = V) ∧
    (∀ p : Nat, to (fm j) = p → p < r ∧ rk p < rk j ∧ Pg c l r gl gr of to a b gain rl rk A D V (up of' j (fm j : Int)) (up to' (fm j) (j : Int)) p) := by
  obtain ⟨he, hne⟩ := hW.ed j h.jr
  have hil := he.1
  have hpar := hrk j h.jr
  -- the glove before was not met yet
  have hto : to' (fm j) = to (fm j) := by
    rcases h.kp (fm j) hil with e | ⟨k, e, h1, _⟩
    · exact e
    · rcases hpar with e2 | ⟨p, e2, _, h2⟩
      · rw [e] at e2; omega
      · rw [e] at e2
        have : k = p := by omega
        subst this; omega
  have hRd : Hung.Rd to rl (fm j) := by
    rcases hpar with e | ⟨p, e, hp, _⟩
    · exact .inl e
    · exact .inr ⟨p, e, hp⟩
  have heq : gain j = stI c gain to (fm j) + Wt c (fm j) j := by
    have := hW.ub j h.jr
    have := hF (fm j) j he hne hRd
    omega
  -- the pair that is added is tight
  have htj : na A D a b gain to (fm j) + nb A D b gain j = Wt c (fm j) j := by
    have hjD := h.jD
    have hxj : xs A b gain j = ys A b gain to (fm j) + (a (fm j) + b j - Wt c (fm j) j) := by
      rcases hpar with e | ⟨p, e, hp, _⟩
      · rw [ys_free e]
        rw [st_free e] at heq
        have := (hP.aA (fm j) hil he.2.2.1).2 e
        unfold xs; omega
      · rw [ys_at e]
        rw [st_at e] at heq
        have := hP.ti (fm j) p hil e
        unfold xs; omega
    have hfe := hP.fe (fm j) j he
    unfold na nb; omega
  have htiN : ∀ (i q : Nat), i < l → up to' (fm j) (j : Int) i = q → na A D a b gain to i + nb A D b gain q = Wt c i q := fun i q hi hq => by
    by_cases e : i = fm j
    · subst e
      rw [up_same] at hq
      have : j = q := by omega
      subst this; exact htj
    · rw [up_ne _ _ e] at hq; exact h.ti i q hi hq
  refine ⟨hto, hil, fun hfree => ?_, fun p hp => ?_⟩
  · refine ⟨⟨fun i hi => ?_, fun q hq => ?_⟩, fun i hi hi1 => ?_, fun q hq hq1 => ?_, htiN, ?_⟩
    · by_cases e : i = fm j
      · subst e
        exact .inr ⟨j, up_same .., he, up_same ..⟩
      · rw [up_ne _ _ e]
        rcases h.t1 i hi with h1 | ⟨q, h1, h2, h3, h4⟩
        · exact .inl h1
        · exact .inr ⟨q, h1, h2, by rw [up_ne _ _ h4]; exact h3⟩
    · by_cases e : q = j
      · subst e
        exact .inr ⟨fm q, up_same .., he, up_same ..⟩
      · rw [up_ne _ _ e]
        rcases h.o1 q hq e with h1 | ⟨i, h1, h2, h3⟩
        · exact .inl h1
        · refine .inr ⟨i, h1, h2, ?_⟩
          rw [up_ne _ _ fun e2 => by rw [e2, hto, hfree] at h3; omega]
          exact h3
    · by_cases e : i = fm j
      · rw [e]; exact hfree
      · rw [up_ne _ _ e] at hi1
        exact h.vi i hi hi1
    · by_cases e : q = j
      · subst e; rw [up_same] at hq1; omega
      · rw [up_ne _ _ e] at hq1; exact h.fo q hq e hq1
    · rw [valT_up c to' j hil, hto, hfree, if_neg (by omega)]
      have := h.su
      rw [st_free hfree] at heq
      omega
  · rcases hpar with e0 | ⟨p', e0, hpr, hrkp⟩
    · rw [hp] at e0; omega
    have : p' = p := by omega
    subst this
    have hpn : p' ≠ j := fun e => hne (by rw [hp, e])
    have hpr' := hW.rr p' hpr
    have hofp : of' p' = (fm j : Int) ∧ ∀ i, i < l → to' i = p' → i = fm j := by
      have key : ∀ i, i < l → to' i = p' → of' p' = i := fun i hi h1 => by
        rcases h.t1 i hi with h2 | ⟨q, h2, _, h4, _⟩
        · omega
        · have : q = p' := by omega
          subst this; exact h4
      have h1 := key (fm j) hil (by rw [hto, hp])
      exact ⟨h1, fun i hi h2 => by have := key i hi h2; omega⟩
    refine ⟨hpr', hrkp, ⟨hpr, ?_, fun i hi => ?_, fun q hq hqp => ?_, fun i hi => ?_, fun i hi hi1 => ?_, fun q hq hqp hq1 => ?_, htiN, ?_⟩⟩
    · have hjD := h.jD
      have hfe := hP.fe (fm j) j he
      have ht := hP.ti (fm j) p' hil hp
      rw [st_at hp] at heq
      unfold xs at *; omega
    · by_cases e : i = fm j
      · subst e
        exact .inr ⟨j, up_same .., he, up_same .., Ne.symm hpn⟩
      · rw [up_ne _ _ e]
        rcases h.t1 i hi with h1 | ⟨q, h1, h2, h3, h4⟩
        · exact .inl h1
        · exact .inr ⟨q, h1, h2, by rw [up_ne _ _ h4]; exact h3, fun e2 => e (hofp.2 i hi (by rw [h1, e2]))⟩
    · by_cases e : q = j
      · subst e
        exact .inr ⟨fm q, up_same .., he, up_same ..⟩
      · rw [up_ne _ _ e]
        rcases h.o1 q hq e with h1 | ⟨i, h1, h2, h3⟩
        · exact .inl h1
        · refine .inr ⟨i, h1, h2, ?_⟩
          rw [up_ne _ _ fun e2 => hqp (by rw [e2, hto, hp] at h3; omega)]
          exact h3
    · by_cases e : i = fm j
      · subst e
        exact .inr ⟨p', hp, Nat.le_refl _, hpr⟩
      · rw [up_ne _ _ e]
        rcases h.kp i hi with h1 | ⟨k, h1, h2, h3⟩
        · exact .inl h1
        · exact .inr ⟨k, h1, by omega, h3⟩
    · by_cases e : i = fm j
      · subst e; rw [up_same] at hi1; omega
      · rw [up_ne _ _ e] at hi1; exact h.vi i hi hi1
    · by_cases e : q = j
      · subst e; rw [up_same] at hq1; omega
      · rw [up_ne _ _ e] at hq1; exact h.fo q hq e hq1
    · rw [valT_up c to' j hil, hto, hp, if_pos (by omega), Int.toNat_natCast]
      have := h.su
      rw [st_at hp] at heq
      omega
end
end Go.Proofs.Ytajpngnphbdnnaa.Hung
namespace Go.Proofs.Ytajpngnphbdnnaa.Hung
set_option linter.unusedSimpArgs false
set_option linter.unusedVariables false
section
variable {c : Nat → Nat → Int} {l r : Nat} {gl gr : Nat → Bool} {of to a b gain g0 : Nat → Int} {fm tau : Nat → Nat} {rl rl0 : List Nat} {T : Nat} {A : Int}
theorem Mt.inj (hM : Mt c l r gl gr of to) : ∀ (i i' j : Nat), i < l → i' < l → to i = j → to i' = j → i = i' := fun i i' j hi hi' h h' => by
  rcases hM.t1 i hi with e | ⟨q, e, _, f⟩
  · omega
  · rcases hM.t1 i' hi' with e' | ⟨q', e', _, f'⟩
    · omega
    · have h1 : q = j := by omega
      have h2 : q' = j := by omega
      subst h1 h2; omega
theorem Rd.mono {i : Nat} {k : List Nat} (h : Rd to rl i) (hs : ∀ q ∈ rl, q ∈ k) : Rd to k i := by
  rcases h with h | ⟨p, h, hp⟩
  · exact .inl h
  · exact .inr ⟨p, h, hs p hp⟩
theorem Wy.le (hM : Mt c l r gl gr of to) (hP : Pc c l r gl gr of to a b A) (hW : Wy c l r gl gr to b A gain fm rl tau T) {j : Nat} (hj : j < r) : gain j ≤ 2000000000 := by
  by_cases h : j ∈ rl
  · have := hW.hi j h
    have := hP.b_le hM hj (hW.ed j h).1.2.2.2.1
    have := hP.bA
    omega
  · have := hW.un j hj h; omega
/-- A left glove is reached just if the way up to it gains more than nothing known. -/
theorem Wy.rd (hM : Mt c l r gl gr of to) (hP : Pc c l r gl gr of to a b A) (hW : Wy c l r gl gr to b A gain fm rl tau T) (hc : ∀ i j, c i j ≤ 1000000000) (hr : r ≤ 32) {i : Nat} (hi : i < l) :
    (Rd to rl i ∧ -1000000000 * (rl.length : Int) ≤ stI c gain to i + 1000000000 ∧ -1125899906842624 ≤ stI c gain to i ∧ stI c gain to i ≤ 4000000000) ∨ (¬ Rd to rl i ∧ stI c gain to i < -1125899906842624) := by
  have hn := Int.natCast_nonneg rl.length
  have hl := hW.len
  rcases hM.t1 i hi with h | ⟨p, h, he, _⟩
  · refine .inl ⟨.inl h, ?_⟩
    rw [st_free h]
    omega
  · rw [st_at h]
    have h4 := he.2.2.2.2
    have h5 := hc i p
    have h3 : Wt c i p = 1000000000 - c i p := rfl
    rw [h3]
    by_cases hp : p ∈ rl
    · have h6 := hW.lo p hp
      have h7 := hW.le hM hP he.2.1
      exact .inl ⟨.inr ⟨p, h, hp⟩, by omega, by omega, by omega⟩
    · have := hW.un p he.2.1 hp
      refine .inr ⟨fun hR => ?_, by omega⟩
      rcases hR with e | ⟨q, e, hq⟩
      · omega
      · have : p = q := by omega
        subst this; exact hp hq
def pot (gain : Nat → Int) (r : Nat) : Nat := (sN (fun j => 4000000000 - gain j) r).toNat
theorem pot_up {j : Nat} {x : Int} (hj : j < r) (hle : ∀ q, q < r → gain q ≤ 4000000000) (hx : x ≤ 4000000000) (hlt : gain j < x) : pot (up gain j x) r < pot gain r := by
  have e : (fun q => 4000000000 - up gain j x q) = up (fun q => 4000000000 - gain q) j (4000000000 - x) := by
    funext q
    by_cases e : q = j
    · subst e; rw [up_same, up_same]
    · rw [up_ne _ _ e, up_ne _ _ e]
  unfold pot
  rw [e, sN_up, if_pos hj]
  have h0 : 0 ≤ sN (fun q => 4000000000 - up gain j x q) r := sN_nonneg fun q hq => by
    by_cases e : q = j
    · subst e; rw [up_same]; omega
    · rw [up_ne _ _ e]; have := hle q hq; omega
  rw [e, sN_up, if_pos hj] at h0
  omega
/-- How far one round has come: nothing was bettered and nothing before gains, or something was. -/
def Swp (c : Nat → Nat → Int) (l r : Nat) (gl gr : Nat → Bool) (to g0 : Nat → Int) (rl0 : List Nat) (gain : Nat → Int) (rl : List Nat) (i q : Nat) (ag : Bool) : Prop :=
  (ag = false ∧ gain = g0 ∧ rl = rl0 ∧ ∀ i' j', Ed c l r gl gr i' j' → to i' ≠ j' → Rd to rl i' → (i' < i ∨ i' = i ∧ j' < q) → stI c gain to i' + Wt c i' j' ≤ gain j') ∨ (ag = true ∧ pot gain r < pot g0 r)
theorem Swp.start (g0 : Nat → Int) (rl0 : List Nat) : Swp c l r gl gr to g0 rl0 g0 rl0 0 0 false := .inl ⟨rfl, rfl, rfl, fun _ _ _ _ _ h => by omega⟩
theorem Swp.row {i : Nat} {ag : Bool} (h : Swp c l r gl gr to g0 rl0 gain rl i r ag) : Swp c l r gl gr to g0 rl0 gain rl (i + 1) 0 ag := by
  rcases h with ⟨h1, h2, h3, h4⟩ | h
  · refine .inl ⟨h1, h2, h3, fun i' j' he hne hR ho => h4 i' j' he hne hR ?_⟩
    have := he.2.1
    omega
  · exact .inr h
theorem Swp.skip {i q : Nat} {ag : Bool} (h : Swp c l r gl gr to g0 rl0 gain rl i q ag) (hg : Ed c l r gl gr i q → to i ≠ q → stI c gain to i + Wt c i q ≤ gain q) : Swp c l r gl gr to g0 rl0 gain rl i (q + 1) ag := by
  rcases h with ⟨h1, h2, h3, h4⟩ | h
  · refine .inl ⟨h1, h2, h3, fun i' j' he hne hR ho => ?_⟩
    by_cases e : i' = i ∧ j' = q
    · obtain ⟨rfl, rfl⟩ := e; exact hg he hne
    · exact h4 i' j' he hne hR (by omega)
  · exact .inr h
theorem Swp.take {i q : Nat} {ag : Bool} {x : Int} {k : List Nat} (h : Swp c l r gl gr to g0 rl0 gain rl i q ag) (hq : q < r) (hle : ∀ q, q < r → gain q ≤ 4000000000) (hx : x ≤ 4000000000) (hlt : gain q < x) : Swp c l r gl gr to g0 rl0 (up gain q x) k i (q + 1) true := by
  have := pot_up hq hle hx hlt
  rcases h with ⟨h1, h2, h3, h4⟩ | h
  · subst h2; exact .inr ⟨rfl, this⟩
  · exact .inr ⟨rfl, by omega⟩
end
end Go.Proofs.Ytajpngnphbdnnaa.Hung
namespace Go.Proofs.Ytajpngnphbdnnaa.Abs
set_option linter.unusedSimpArgs false
set_option linter.unusedVariables false
open Go.RowKit
open Go.Proofs.Ytajpngnphbdnnaa.Sim
open Go.Proofs
/-- A row of truths. -/
def BRow (m : AM) (v : Value) (g : Nat → Bool) (n : Nat) : Prop := ∃ a o, Sl v a o n ∧ a < m.length ∧ ∀ k, k < n → Rd m a (o + k) (.bool (g k))
theorem BRow.old {m : AM} {v : Value} {g : Nat → Bool} {n : Nat} (L : AM) (h : BRow m v g n) : BRow (m ++ L) v g n := by
  obtain ⟨a, o, h1, h2, h3⟩ := h
  exact ⟨a, o, h1, by simp; omega, fun k hk => (h3 k hk).old L⟩
end Go.Proofs.Ytajpngnphbdnnaa.Abs
namespace Go.Proofs.Ytajpngnphbdnnaa.Hung
set_option linter.unusedSimpArgs false
set_option linter.unusedVariables false
section
variable {c : Nat → Nat → Int} {l r : Nat} {gl gr : Nat → Bool} {of to a b gain : Nat → Int} {fm tau rk : Nat → Nat} {rl : List Nat} {T : Nat} {A D V : Int} {of' to' : Nat → Int}
/-- The best end of a way among the first k. -/
def Bst (gr : Nat → Bool) (of gain : Nat → Int) (k : Nat) (best : Int) : Prop :=
  (best = -1 ∧ ∀ j, j < k → gr j = false → of j = -1 → gain j ≤ 0) ∨ (∃ q : Nat, best = q ∧ q < k ∧ gr q = false ∧ of q = -1 ∧ 0 < gain q ∧ ∀ j, j < k → gr j = false → of j = -1 → gain j ≤ gain q)
theorem Bst.start (gr : Nat → Bool) (of gain : Nat → Int) : Bst gr of gain 0 (-1) := .inl ⟨rfl, fun _ h => by omega⟩
theorem Bst.skip {k : Nat} {best : Int} (h : Bst gr of gain k best) (hg : gr k = false → of k = -1 → 0 < gain k → 0 ≤ best ∧ gain k ≤ gain best.toNat) : Bst gr of gain (k + 1) best := by
  rcases h with ⟨h1, h2⟩ | ⟨q, h1, h2, h3, h4, h5, h6⟩
  · refine .inl ⟨h1, fun j hj g f => ?_⟩
    rcases Nat.lt_or_ge j k with e | e
    · exact h2 j e g f
    · have : j = k := by omega
      subst this
      rcases Int.lt_or_le 0 (gain j) with h | h
      · have := hg g f h; omega
      · exact h
  · refine .inr ⟨q, h1, by omega, h3, h4, h5, fun j hj g f => ?_⟩
    rcases Nat.lt_or_ge j k with e | e
    · exact h6 j e g f
    · have : j = k := by omega
      subst this
      rcases Int.lt_or_le 0 (gain j) with h | h
      · have := (hg g f h).2
        rw [h1, Int.toNat_natCast] at this; exact this
      · omega
theorem Bst.take {k : Nat} {best : Int} (h : Bst gr of gain k best) (hg : gr k = false) (hf : of k = -1) (hp : 0 < gain k) (hb : best < 0 ∨ gain best.toNat < gain k) : Bst gr of gain (k + 1) (k : Int) := by
  refine .inr ⟨k, rfl, by omega, hg, hf, hp, fun j hj g f => ?_⟩
  rcases Nat.lt_or_ge j k with e | e
  · rcases h with ⟨h1, h2⟩ | ⟨q, h1, h2, h3, h4, h5, h6⟩
    · have := h2 j e g f; omega
    · have := h6 j e g f
      rcases hb with hb | hb
      · omega
      · rw [h1, Int.toNat_natCast] at hb; omega
  · have : j = k := by omega
    subst this; exact Int.le_refl _
/-- Handing on along the way. -/
def Wk (c : Nat → Nat → Int) (l r : Nat) (gl gr : Nat → Bool) (of to a b gain : Nat → Int) (rl : List Nat) (rk : Nat → Nat) (A D V : Int) (of' to' : Nat → Int) (j : Int) : Prop :=
  (∃ q : Nat, j = q ∧ Pg c l r gl gr of to a b gain rl rk A D V of' to' q) ∨ (j = -1 ∧ Mt c l r gl gr of' to' ∧ Pc c l r gl gr of' to' (na A D a b gain to) (nb A D b gain) (A - D) ∧ valT c to' l = V)
theorem Wk.start (hM : Mt c l r gl gr of to) (hP : Pc c l r gl gr of to a b A) (hW : Wy c l r gl gr to b A gain fm rl tau T) (hF : Fx c l r gl gr to gain rl) (rk : Nat → Nat) {q : Nat} (hq : q < r) (hg : gr q = false) (hf : of q = -1) (hp : 0 < gain q) (hmx : ∀ j, j < r → gr j = false → of j = -1 → gain j ≤ gain q) :
    Pc c l r gl gr of to (na A (A - gain q) a b gain to) (nb A (A - gain q) b gain) (A - (A - gain q)) ∧ Wk c l r gl gr of to a b gain rl rk A (A - gain q) (valT c to l + gain q) of to (q : Int) := by
  have hq2 : q ∈ rl := by
    by_cases h : q ∈ rl
    · exact h
    · have := hW.un q hq h; omega
  have hb := (hP.b0 q hq hg).2 hf
  have hhi := hW.hi q hq2
  have hP' := hP.move (D := A - gain q) hM hW hF (by omega) (by omega) fun j hj g f => by
    have h1 := hmx j hj g f
    have h2 := (hP.b0 j hj g).2 f
    unfold xs; omega
  exact ⟨hP', .inl ⟨q, rfl, Pg.start hM hP hP' rk hq2 hq (by unfold xs; omega) hf⟩⟩
theorem Wk.step (hP : Pc c l r gl gr of to a b A) (hW : Wy c l r gl gr to b A gain fm rl tau T) (hF : Fx c l r gl gr to gain rl) (hrk : ∀ j ∈ rl, to (fm j) = -1 ∨ ∃ p : Nat, to (fm j) = p ∧ p ∈ rl ∧ rk p < rk j)
    (hP' : Pc c l r gl gr of to (na A D a b gain to) (nb A D b gain) (A - D)) {q : Nat} (h : Pg c l r gl gr of to a b gain rl rk A D V of' to' q) :
    q < r ∧ fm q < l ∧ to' (fm q) = to (fm q) ∧ Wk c l r gl gr of to a b gain rl rk A D V (up of' q (fm q : Int)) (up to' (fm q) (q : Int)) (to (fm q)) ∧ (to (fm q) = -1 ∨ ∃ p : Nat, to (fm q) = p ∧ rk p < rk q) := by
  obtain ⟨h1, h2, h3, h4⟩ := Pg.step hP hW hF hrk h
  refine ⟨hW.rr q h.jr, h2, h1, ?_⟩
  rcases hrk q h.jr with e | ⟨p, e, _⟩
  · obtain ⟨k1, k2, k3, k4, k5⟩ := h3 e
    refine ⟨.inr ⟨e, k1, ⟨hP'.A0, fun i hi g => ⟨(hP'.aA i hi g).1, fun f => (hP'.aA i hi g).2 (k2 i hi f)⟩, fun j hj g => ⟨(hP'.b0 j hj g).1, fun f => (hP'.b0 j hj g).2 (k3 j hj f)⟩, hP'.fe, k4, hP'.bA⟩, k5⟩, .inl e⟩
  · obtain ⟨k1, k2, k3⟩ := h4 p e
    exact ⟨.inl ⟨p, e, k3⟩, .inr ⟨p, e, k2⟩⟩
end
end Go.Proofs.Ytajpngnphbdnnaa.Hung
namespace Go.Proofs.Ytajpngnphbdnnaa.Hung
set_option linter.unusedSimpArgs false
set_option linter.unusedVariables false
/-- How many of the first n. -/
def cN (p : Nat → Bool) : Nat → Nat
  | 0 => 0
  | n + 1 => cN p n + if p n = true then 1 else 0
theorem cN_filter (p : Nat → Bool) : ∀ n, cN p n = ((List.range n).filter p).length
  | 0 => rfl
  | n + 1 => by
    rw [List.range_succ, List.filter_append, List.length_append, ← cN_filter p n, cN]
    cases h : p n <;> simp [h]
theorem cN_mono {p q : Nat → Bool} : ∀ {n : Nat}, (∀ j, j < n → p j = true → q j = true) → cN p n ≤ cN q n
  | 0, _ => Nat.le_refl _
  | n + 1, h => by
    have := cN_mono (n := n) fun j hj => h j (by omega)
    have := h n (by omega)
    simp only [cN]
    cases hp : p n <;> cases hq : q n <;> simp_all <;> omega
theorem cN_congr {p q : Nat → Bool} {n : Nat} (h : ∀ j, j < n → p j = q j) : cN p n = cN q n :=
  Nat.le_antisymm (cN_mono fun j hj hp => by rw [← h j hj]; exact hp) (cN_mono fun j hj hp => by rw [h j hj]; exact hp)
theorem cN_one {p q : Nat → Bool} {j0 : Nat} (hp : p j0 = false) (hq : q j0 = true) (h : ∀ j, j ≠ j0 → q j = p j) : ∀ {n : Nat}, j0 < n → cN q n = cN p n + 1
  | 0, h0 => by omega
  | n + 1, h0 => by
    simp only [cN]
    by_cases e : j0 = n
    · subst e
      rw [hp, hq, cN_congr (p := q) (q := p) fun j hj => h j (by omega)]; simp
    · rw [cN_one hp hq h (n := n) (by omega), h n (by omega)]; omega
theorem cN_le {p : Nat → Bool} : ∀ n, cN p n ≤ n
  | 0 => Nat.le_refl _
  | n + 1 => by have := cN_le (p := p) n; simp only [cN]; split <;> omega
theorem cN_inj {p q : Nat → Bool} {n m : Nat} (φ : Nat → Nat) (h1 : ∀ j, j < n → p j = true → φ j < m ∧ q (φ j) = true) (h2 : ∀ j j', j < n → j' < n → p j = true → p j' = true → φ j = φ j' → j = j') : cN p n ≤ cN q m := by
  rw [cN_filter, cN_filter]
  have hn : (((List.range n).filter p).map φ).Nodup := by
    unfold List.Nodup
    rw [List.pairwise_map]
    refine List.Pairwise.imp_of_mem ?_ (List.nodup_range.filter p : ((List.range n).filter p).Nodup)
    intro a b ha hb hab e
    rw [List.mem_filter, List.mem_range] at ha hb
    exact hab (h2 a b ha.1 hb.1 ha.2 hb.2 e)
  have := nodup_le hn (k := (List.range m).filter q) fun x hx => by
    rw [List.mem_map] at hx
    obtain ⟨j, hj, rfl⟩ := hx
    rw [List.mem_filter, List.mem_range] at hj ⊢
    exact h1 j hj.1 hj.2
  rwa [List.length_map] at this
abbrev KS := (Nat → Bool) × (Nat → Int)
/-- A way from a left glove to a right one without a partner, and the pairing after it. -/
inductive Pth (ok : Nat → Nat → Bool) (r : Nat) : Nat → (Nat → Bool) → (Nat → Int) → (Nat → Int) → Prop
  | one {i j : Nat} {sn : Nat → Bool} {m : Nat → Int} : j < r → sn j = false → ok i j = true → m j < 0 → Pth ok r i sn m (up m j (i : Int))
  | more {i i2 j : Nat} {sn : Nat → Bool} {m m1 : Nat → Int} : j < r → sn j = false → ok i j = true → m j = (i2 : Nat) → Pth ok r i2 (up sn j true) m m1 → Pth ok r i sn m (up m1 j (i : Int))
/-- A set of right gloves whose partners know none outside it. -/
def Clo (ok : Nat → Nat → Bool) (r : Nat) (m : Nat → Int) (C : Nat → Bool) : Prop := ∀ j, C j = true → j < r ∧ 0 ≤ m j ∧ ∀ j', j' < r → ok (m j).toNat j' = true → C j' = true
theorem Pth.clo {ok : Nat → Nat → Bool} {r i : Nat} {sn : Nat → Bool} {m m' : Nat → Int} {C : Nat → Bool} (h : Pth ok r i sn m m') : Clo ok r m C → (∀ j, C j = true → m' j = m j) ∧ ∃ j, j < r ∧ ok i j = true ∧ C j = false := by
  induction h with
  | @one i j sn m h1 h2 h3 h4 =>
    intro hC
    have hj : C j = false := by
      cases e : C j with
      | false => rfl
      | true => have := (hC j e).2.1; omega
    exact ⟨fun x hx => up_ne _ _ (by rintro rfl; rw [hj] at hx; cases hx), j, h1, h3, hj⟩
  | @more i i2 j sn m m1 h1 h2 h3 h4 _ ih =>
    intro hC
    obtain ⟨a1, j2, a2, a3, a4⟩ := ih hC
    have hj : C j = false := by
      cases e : C j with
      | false => rfl
      | true =>
        have := (hC j e).2.2 j2 a2 (by rw [h4]; simpa using a3)
        rw [a4] at this; cases this
    exact ⟨fun x hx => by rw [up_ne _ _ (by rintro rfl; rw [hj] at hx; cases hx)]; exact a1 x hx, j, h1, h3, hj⟩
structure KInv (ok : Nat → Nat → Bool) (r k : Nat) (m : Nat → Int) (n : Nat) : Prop where
  v : ∀ j, m j = -1 ∨ ∃ i : Nat, m j = (i : Nat) ∧ i < k ∧ j < r ∧ ok i j = true
  inj : ∀ j j', 0 ≤ m j → m j = m j' → j = j'
  cnt : n = cN (fun j => decide (0 ≤ m j)) r
  clo : ∃ C : Nat → Bool, Clo ok r m C ∧ ∀ i, i < k → (∃ j, m j = (i : Nat)) ∨ ∀ j, j < r → ok i j = true → C j = true
/-- A pairing, by right gloves. -/
def Mch (ok : Nat → Nat → Bool) (l r : Nat) (m : Nat → Int) : Prop := (∀ j, j < r → 0 ≤ m j → m j < (l : Nat) ∧ ok (m j).toNat j = true) ∧ ∀ j j', j < r → j' < r → 0 ≤ m j → m j = m j' → j = j'
/-- No pairing is greater. -/
theorem KInv.max {ok : Nat → Nat → Bool} {r l n : Nat} {m μ : Nat → Int} (h : KInv ok r l m n) (hμ : Mch ok l r μ) : cN (fun j => decide (0 ≤ μ j)) r ≤ n := by
  obtain ⟨v, inj, cnt, C, hC, hfr⟩ := h
  rw [cnt]
  have hvr : ∀ j, 0 ≤ m j → j < r := fun j h => by
    rcases v j with h1 | ⟨i, _, _, h2, _⟩
    · omega
    · exact h2
  have key : ∀ j, j < r → 0 ≤ μ j → ∃ x, x < r ∧ 0 ≤ m x ∧ (C j = true → x = j) ∧ (C j = false → C x = false ∧ m x = μ j) := fun j hj h0 => by
    obtain ⟨k1, k2⟩ := hμ.1 j hj h0
    cases e : C j with
    | true =>
      obtain ⟨_, c2, _⟩ := hC j e
      exact ⟨j, hj, c2, fun _ => rfl, fun h => by cases h⟩
    | false =>
      rcases hfr (μ j).toNat (by omega) with ⟨x, hx⟩ | hx
      · refine ⟨x, hvr x (by omega), by omega, fun h => (by cases h), fun _ => ⟨?_, by omega⟩⟩
        cases ex : C x with
        | false => rfl
        | true =>
          have := (hC x ex).2.2 j hj (by rw [hx, Int.toNat_natCast]; exact k2)
          rw [e] at this; cases this
      · have := hx j hj k2
        rw [e] at this; cases this
  refine cN_inj (fun j => if h : j < r ∧ 0 ≤ μ j then (key j h.1 h.2).choose else 0) (fun j hj hp => ?_) (fun j j' hj hj' hp hp' he => ?_)
  · have h0 : 0 ≤ μ j := by simpa using hp
    rw [dif_pos ⟨hj, h0⟩]
    have := (key j hj h0).choose_spec
    exact ⟨this.1, by simpa using this.2.1⟩
  · have h0 : 0 ≤ μ j := by simpa using hp
    have h0' : 0 ≤ μ j' := by simpa using hp'
    rw [dif_pos ⟨hj, h0⟩, dif_pos ⟨hj', h0'⟩] at he
    obtain ⟨_, _, a1, a2⟩ := (key j hj h0).choose_spec
    obtain ⟨_, _, b1, b2⟩ := (key j' hj' h0').choose_spec
    rw [he] at a1 a2
    cases e : C j with
    | true =>
      cases e' : C j' with
      | true => rw [← a1 e, b1 e']
      | false =>
        have := (b2 e').1
        rw [a1 e, e] at this; cases this
    | false =>
      cases e' : C j' with
      | true =>
        have := (a2 e).1
        rw [b1 e', e'] at this; cases this
      | false => exact hμ.2 j j' hj hj' h0 (by rw [← (a2 e).2, (b2 e').2])
end Go.Proofs.Ytajpngnphbdnnaa.Hung
namespace Go.Proofs.Ytajpngnphbdnnaa.Abs
set_option linter.unusedSimpArgs false
set_option linter.unusedVariables false
open Go.RowKit
open Go.Proofs.Ytajpngnphbdnnaa.Sim
open Go.Proofs
open Hung
/-- The memory in which block p holds what is seen and block q who is paired. -/
def KM (m : AM) (p q r : Nat) (s : KS) : AM := (m.set p (some { cells := bv (tabB s.1 r) })).set q (some { cells := iv (tab s.2 r) })
section
variable {m : AM} {p q r : Nat} {s : KS}
theorem KM.len : (KM m p q r s).length = m.length := by simp [KM]
end
section
variable {P : Program} {nt : Nat} {ops : Array Oper} {t : Fm} {m : AM} {K : Fm → AM → Prop} {T : Nat} {pp : String} {af : Array Edge}
end
theorem fromI_cons {k r : Nat} (h : k < r) : fromI k r = k :: fromI (k + 1) r := by
  unfold fromI
  rw [show r - k = r - (k + 1) + 1 by omega]; rfl
theorem fromI_nil {r : Nat} : fromI r r = [] := by unfold fromI; rw [Nat.sub_self]; rfl
theorem fromI_zero (r : Nat) : fromI 0 r = List.range r := by unfold fromI; rw [List.range_eq_range']; rfl
theorem KM.app {m : AM} {r : Nat} {x y : Option Blk} {s : KS} : KM (m ++ [x, y]) (m.length + 1) (m.length + 0) r s = m ++ [some { cells := iv (tab s.2 r) }, some { cells := bv (tabB s.1 r) }] := by
  unfold KM
  rw [List.set_append_right _ _ (by omega), List.set_append_right _ _ (by omega)]
  simp
end Go.Proofs.Ytajpngnphbdnnaa.Abs
namespace Go.Proofs.Ytajpngnphbdnnaa.Abs
set_option linter.unusedSimpArgs false
set_option linter.unusedVariables false
open Go.RowKit
open Go.Proofs.Ytajpngnphbdnnaa.Sim
open Go.Proofs
open Hung
section
variable {m : AM} {p q r : Nat} {s : KS}
theorem KM.self (h1 : m[p]? = some (some { cells := bv (tabB s.1 r) })) (h2 : m[q]? = some (some { cells := iv (tab s.2 r) })) : KM m p q r s = m := by
  have e : ∀ {a : Nat} {x : Option Blk}, m[a]? = some x → m.set a x = m := fun {a x} h => by
    apply List.ext_getElem?
    intro i
    by_cases e : i = a
    · subst e; rw [List.getElem?_set_self (List.getElem?_eq_some_iff.1 h).1, h]
    · rw [List.getElem?_set_ne (Ne.symm e)]
  unfold KM
  rw [e h1, e h2]
theorem KM.ne {a : Nat} (h1 : a ≠ p) (h2 : a ≠ q) : (KM m p q r s)[a]? = m[a]? := by
  unfold KM
  rw [List.getElem?_set_ne (Ne.symm h2), List.getElem?_set_ne (Ne.symm h1)]
theorem KM.pre {N : AM} (h1 : m.length ≤ p) (h2 : m.length ≤ q) : ∃ N', KM (m ++ N) p q r s = m ++ N' := by
  unfold KM
  obtain ⟨N1, e1⟩ := pre_set (m := m) (N := N) (p := p) (x := some { cells := bv (tabB s.1 r) }) h1
  rw [e1]
  exact pre_set h2
end
section
variable {P : Program} {nt : Nat} {ops : Array Oper} {t : Fm} {m : AM} {K : Fm → AM → Prop} {T : Nat} {pp : String} {af : Array Edge}
end
set_option maxRecDepth 100000 in
theorem size_ok {m : AM} {v : Value} {mt : Nat → Int} {n : Nat} (h : Ints m v (tab mt n)) (hn : n ≤ 100000) : ACall Try.prog 69 #[v] m (Ret (.int .i64 (cN (fun j => decide (0 ≤ mt j)) n : Nat)) m) := by
  obtain ⟨a, o, h1, h2, h3⟩ := id h
  rw [tab_len] at h1 h3
  refine ACall.start Try.func69 rfl rfl ?_
  (repeat (first | (with_reducible refine AWo.cons ?_) | ((with_reducible refine Step.id ?_); first | ((with_reducible apply Step.move); exact rfl; exact rfl) | ((with_reducible apply Step.assign); exact rfl; exact rfl) | ((with_reducible apply Step.len); exact rfl; (focus (assumption)); (focus (decide +kernel)); exact rfl)) | (with_reducible refine AWo.nil ?_) | ((with_reducible apply AW.seq)) | ((with_reducible apply Then.n)) | ((with_reducible apply AW.regL)) | ((with_reducible apply AW.block))))
  refine AW.loopT (fun rk t L => ∃ k : Nat, rk = n - k ∧ k ≤ n ∧ L = [] ∧ t = [(3, .int .i64 (cN (fun j => decide (0 ≤ mt j)) k : Nat)), (6, v), (7, .int .i64 (n : Nat)), (8, .int .i64 (k : Nat))]) ⟨_, _, _, (Or.inl ⟨rfl, (by repeat (first | exact trivial | (refine And.intro rfl ?_)))⟩), 0, rfl, Nat.zero_le _, rfl, rfl⟩ ?_
  rintro rk t L ⟨k, rfl, hk, rfl, rfl⟩
  have hc : cN (fun j => decide (0 ≤ mt j)) k ≤ k := cN_le _
  rcases Nat.lt_or_ge k n with hlt | hge
  · have r1 := h3 k hlt
    rw [tab_get mt hlt] at r1
    have e : cN (fun j => decide (0 ≤ mt j)) (k + 1) = cN (fun j => decide (0 ≤ mt j)) k + if decide (0 ≤ mt k) = true then 1 else 0 := rfl
    by_cases h0 : 0 ≤ mt k
    · rw [if_pos (by simpa using h0)] at e
      (repeat (first | (with_reducible refine AWo.cons ?_) | ((with_reducible refine Step.id ?_); first | ((with_reducible apply Step.move); exact rfl; exact rfl) | ((with_reducible apply Step.assign); exact rfl; exact rfl) | ((with_reducible apply Step.load); exact rfl; (focus (decide +kernel)); exact rfl; (focus (exact r1.old _))) | ((with_reducible apply Step.ix1); exact rfl; (focus (assumption)); exact rfl; (focus (decide +kernel)); exact rfl; (focus (omega))) | ((with_reducible apply Step.add); exact rfl; exact rfl; (focus (omega)); exact rfl) | ((with_reducible apply Step.lss); exact rfl; exact rfl; exact rfl) | ((with_reducible apply Step.geq); exact rfl; exact rfl; exact rfl)) | (with_reducible refine AWo.nil ?_) | ((with_reducible apply AW.seq)) | ((with_reducible apply Then.n)) | ((with_reducible apply AW.regL)) | ((with_reducible apply AW.block)) | ((with_reducible apply InBlk.n)) | ((with_reducible apply AW.skip)) | ((with_reducible apply AW.condT); exact rfl; (focus ((simp only [decide_eq_true_eq, decide_eq_false_iff_not, Bool.not_eq_true', Bool.not_eq_false', Bool.not_true, Bool.not_false]; first | assumption | omega))))))
      exact ⟨_, [(3, .int .i64 ((cN (fun j => decide (0 ≤ mt j)) k : Nat) + 1)), (6, v), (7, .int .i64 (n : Nat)), (8, .int .i64 ((k + 1 : Nat) : Int))], _, by omega, (Or.inl ⟨rfl, (by repeat (first | exact trivial | (refine And.intro rfl ?_)))⟩), k + 1, rfl, by omega, rfl, by rw [e, Int.natCast_add]; rfl⟩
    · rw [if_neg (by simpa using h0)] at e
      (repeat (first | (with_reducible refine AWo.cons ?_) | ((with_reducible refine Step.id ?_); first | ((with_reducible apply Step.move); exact rfl; exact rfl) | ((with_reducible apply Step.assign); exact rfl; exact rfl) | ((with_reducible apply Step.load); exact rfl; (focus (decide +kernel)); exact rfl; (focus (exact r1.old _))) | ((with_reducible apply Step.ix1); exact rfl; (focus (assumption)); exact rfl; (focus (decide +kernel)); exact rfl; (focus (omega))) | ((with_reducible apply Step.add); exact rfl; exact rfl; (focus (omega)); exact rfl) | ((with_reducible apply Step.lss); exact rfl; exact rfl; exact rfl) | ((with_reducible apply Step.geq); exact rfl; exact rfl; exact rfl)) | (with_reducible refine AWo.nil ?_) | ((with_reducible apply AW.seq)) | ((with_reducible apply Then.n)) | ((with_reducible apply AW.regL)) | ((with_reducible apply AW.block)) | ((with_reducible apply InBlk.n)) | ((with_reducible apply AW.skip)) | ((with_reducible apply AW.condT); exact rfl; (focus ((simp only [decide_eq_true_eq, decide_eq_false_iff_not, Bool.not_eq_true', Bool.not_eq_false', Bool.not_true, Bool.not_false]; first | assumption | omega)))) | ((with_reducible apply AW.condF); exact rfl; (focus ((simp only [decide_eq_true_eq, decide_eq_false_iff_not, Bool.not_eq_true', Bool.not_eq_false', Bool.not_true, Bool.not_false]; first | assumption | omega))))))
      exact ⟨_, [(3, .int .i64 (cN (fun j => decide (0 ≤ mt j)) k : Nat)), (6, v), (7, .int .i64 (n : Nat)), (8, .int .i64 ((k + 1 : Nat) : Int))], _, by omega, (Or.inl ⟨rfl, (by repeat (first | exact trivial | (refine And.intro rfl ?_)))⟩), k + 1, rfl, by omega, rfl, by rw [e]; rfl⟩
  · obtain rfl : k = n := by omega
    (repeat (first | (with_reducible refine AWo.cons ?_) | ((with_reducible refine Step.id ?_); first | ((with_reducible apply Step.move); exact rfl; exact rfl) | ((with_reducible apply Step.assign); exact rfl; exact rfl) | ((with_reducible apply Step.lss); exact rfl; exact rfl; exact rfl)) | (with_reducible refine AWo.nil ?_) | ((with_reducible apply AW.seq)) | ((with_reducible apply Then.n)) | ((with_reducible apply AW.regL)) | ((with_reducible apply AW.exit)) | ((with_reducible apply InBlk.hit)) | ((with_reducible apply Then.e)) | ((with_reducible apply AW.condF); exact rfl; (focus ((simp only [decide_eq_true_eq, decide_eq_false_iff_not, Bool.not_eq_true', Bool.not_eq_false', Bool.not_true, Bool.not_false]; first | assumption | omega))))))
    (refine AW.retD (l := [(2, _)]) (by repeat (first | exact trivial | (refine And.intro ⟨rfl, by (exact .int _ _)⟩ ?_))) ?_; (repeat (first | refine Then.r ?_ | refine InBlk.r ?_)))
    exact ⟨_, rfl, rfl, rfl⟩
end Go.Proofs.Ytajpngnphbdnnaa.Abs
namespace Go.Proofs.Ytajpngnphbdnnaa.Hung
set_option linter.unusedSimpArgs false
set_option linter.unusedVariables false
abbrev RS := (Nat → Bool) × (Nat → Bool)
end Go.Proofs.Ytajpngnphbdnnaa.Hung
namespace Go.Proofs.Ytajpngnphbdnnaa.Abs
set_option linter.unusedSimpArgs false
set_option linter.unusedVariables false
open Go.RowKit
open Go.Proofs.Ytajpngnphbdnnaa.Sim
open Go.Proofs
open Hung
/-- The memory in which blocks p and q hold which gloves are reached. -/
def RM (m : AM) (p q l r : Nat) (s : RS) : AM := (m.set p (some { cells := bv (tabB s.1 l) })).set q (some { cells := bv (tabB s.2 r) })
section
variable {m : AM} {p q l r : Nat} {s : RS}
theorem RM.len : (RM m p q l r s).length = m.length := by simp [RM]
theorem RM.self (h1 : m[p]? = some (some { cells := bv (tabB s.1 l) })) (h2 : m[q]? = some (some { cells := bv (tabB s.2 r) })) : RM m p q l r s = m := by
  have e : ∀ {a : Nat} {x : Option Blk}, m[a]? = some x → m.set a x = m := fun {a x} h => by
    apply List.ext_getElem?
    intro i
    by_cases e : i = a
    · subst e; rw [List.getElem?_set_self (List.getElem?_eq_some_iff.1 h).1, h]
    · rw [List.getElem?_set_ne (Ne.symm e)]
  unfold RM
  rw [e h1, e h2]
theorem RM.ne {a : Nat} (h1 : a ≠ p) (h2 : a ≠ q) : (RM m p q l r s)[a]? = m[a]? := by
  unfold RM
  rw [List.getElem?_set_ne (Ne.symm h2), List.getElem?_set_ne (Ne.symm h1)]
theorem RM.pre {N : AM} (h1 : m.length ≤ p) (h2 : m.length ≤ q) : ∃ N', RM (m ++ N) p q l r s = m ++ N' := by
  unfold RM
  obtain ⟨N1, e1⟩ := pre_set (m := m) (N := N) (p := p) (x := some { cells := bv (tabB s.1 l) }) h1
  rw [e1]
  exact pre_set h2
end
section
variable {P : Program} {nt : Nat} {ops : Array Oper} {t : Fm} {m : AM} {K : Fm → AM → Prop} {T : Nat} {pp : String} {af : Array Edge}
end
end Go.Proofs.Ytajpngnphbdnnaa.Abs
namespace Go.Proofs.Ytajpngnphbdnnaa.Abs
set_option linter.unusedSimpArgs false
set_option linter.unusedVariables false
open Go.RowKit
open Go.Proofs.Ytajpngnphbdnnaa.Sim
open Go.Proofs
open Hung
set_option maxRecDepth 100000 in
theorem index_ok {m : AM} {v : Value} {l : List Int} {x : Int} (h : Ints m v l) (hn : l.length ≤ 100000) : ACall Try.prog 77 #[v, .int .i64 x] m (Ret (.int .i64 (idxF (fun k => decide (l.getD k 0 = x)) l.length)) m) := by
  obtain ⟨a, o, h1, h2, h3⟩ := id h
  refine ACall.start Try.func77 rfl rfl ?_
  (repeat (first | (with_reducible refine AWo.cons ?_) | ((with_reducible refine Step.id ?_); first | ((with_reducible apply Step.move); exact rfl; exact rfl) | ((with_reducible apply Step.assign); exact rfl; exact rfl) | ((with_reducible apply Step.len); exact rfl; (focus (assumption)); (focus (decide +kernel)); exact rfl)) | (with_reducible refine AWo.nil ?_) | ((with_reducible apply AW.seq)) | ((with_reducible apply Then.n)) | ((with_reducible apply AW.regL)) | ((with_reducible apply AW.block))))
  refine AW.loopT (fun rk t L => ∃ k : Nat, rk = l.length - k ∧ k ≤ l.length ∧ (∀ i, i < k → decide (l.getD i 0 = x) = false) ∧ L = [] ∧ t = [(0, v), (1, .int .i64 x), (7, .int .i64 (l.length : Nat)), (8, .int .i64 (k : Nat))]) ⟨_, _, _, (Or.inl ⟨rfl, (by repeat (first | exact trivial | (refine And.intro rfl ?_)))⟩), 0, rfl, Nat.zero_le _, fun _ h => by omega, rfl, rfl⟩ ?_
  rintro rk t L ⟨k, rfl, hk, hz, rfl, rfl⟩
  rcases Nat.lt_or_ge k l.length with hlt | hge
  · have r1 := h3 k hlt
    by_cases he : x = l.getD k 0
    · (repeat (first | (with_reducible refine AWo.cons ?_) | ((with_reducible refine Step.id ?_); first | ((with_reducible apply Step.move); exact rfl; exact rfl) | ((with_reducible apply Step.assign); exact rfl; exact rfl) | ((with_reducible apply Step.load); exact rfl; (focus (decide +kernel)); exact rfl; (focus (exact r1.old _))) | ((with_reducible apply Step.ix1); exact rfl; (focus (assumption)); exact rfl; (focus (decide +kernel)); exact rfl; (focus (omega))) | ((with_reducible apply Step.lss); exact rfl; exact rfl; exact rfl) | ((with_reducible apply Step.eql); exact rfl; exact rfl; exact rfl)) | (with_reducible refine AWo.nil ?_) | ((with_reducible apply AW.seq)) | ((with_reducible apply Then.n)) | ((with_reducible apply AW.regL)) | ((with_reducible apply AW.block)) | ((with_reducible apply AW.skip)) | ((with_reducible apply AW.condT); exact rfl; (focus ((simp only [decide_eq_true_eq, decide_eq_false_iff_not, Bool.not_eq_true', Bool.not_eq_false', Bool.not_true, Bool.not_false]; first | assumption | omega))))))
      (refine AW.retD (l := [(4, _)]) (by repeat (first | exact trivial | (refine And.intro ⟨rfl, by (exact .int _ _)⟩ ?_))) ?_; (repeat (first | refine Then.r ?_ | refine InBlk.r ?_)))
      exact ⟨_, rfl, by rw [idxF_hit hlt hz (by rw [he]; simp)], rfl⟩
    · (repeat (first | (with_reducible refine AWo.cons ?_) | ((with_reducible refine Step.id ?_); first | ((with_reducible apply Step.move); exact rfl; exact rfl) | ((with_reducible apply Step.assign); exact rfl; exact rfl) | ((with_reducible apply Step.load); exact rfl; (focus (decide +kernel)); exact rfl; (focus (exact r1.old _))) | ((with_reducible apply Step.ix1); exact rfl; (focus (assumption)); exact rfl; (focus (decide +kernel)); exact rfl; (focus (omega))) | ((with_reducible apply Step.add); exact rfl; exact rfl; (focus (omega)); exact rfl) | ((with_reducible apply Step.lss); exact rfl; exact rfl; exact rfl) | ((with_reducible apply Step.eql); exact rfl; exact rfl; exact rfl)) | (with_reducible refine AWo.nil ?_) | ((with_reducible apply AW.seq)) | ((with_reducible apply Then.n)) | ((with_reducible apply AW.regL)) | ((with_reducible apply AW.block)) | ((with_reducible apply InBlk.n)) | ((with_reducible apply AW.skip)) | ((with_reducible apply AW.condT); exact rfl; (focus ((simp only [decide_eq_true_eq, decide_eq_false_iff_not, Bool.not_eq_true', Bool.not_eq_false', Bool.not_true, Bool.not_false]; first | assumption | omega)))) | ((with_reducible apply AW.condF); exact rfl; (focus ((simp only [decide_eq_true_eq, decide_eq_false_iff_not, Bool.not_eq_true', Bool.not_eq_false', Bool.not_true, Bool.not_false]; first | assumption | omega))))))
      refine ⟨_, _, _, by omega, (Or.inl ⟨rfl, (by repeat (first | exact trivial | (refine And.intro rfl ?_)))⟩), k + 1, rfl, by omega, fun i hi => ?_, rfl, rfl⟩
      by_cases e : i = k
      · subst e; exact decide_eq_false fun h => he h.symm
      · exact hz i (by omega)
  · obtain rfl : k = l.length := by omega
    (repeat (first | (with_reducible refine AWo.cons ?_) | ((with_reducible refine Step.id ?_); first | ((with_reducible apply Step.assign); exact rfl; exact rfl) | ((with_reducible apply Step.lss); exact rfl; exact rfl; exact rfl)) | (with_reducible refine AWo.nil ?_) | ((with_reducible apply AW.seq)) | ((with_reducible apply Then.n)) | ((with_reducible apply AW.regL)) | ((with_reducible apply AW.exit)) | ((with_reducible apply InBlk.hit)) | ((with_reducible apply Then.e)) | ((with_reducible apply AW.condF); exact rfl; (focus ((simp only [decide_eq_true_eq, decide_eq_false_iff_not, Bool.not_eq_true', Bool.not_eq_false', Bool.not_true, Bool.not_false]; first | assumption | omega))))))
    (refine AW.retD (l := [(4, _)]) (by repeat (first | exact trivial | (refine And.intro ⟨rfl, by (exact .int _ _)⟩ ?_))) ?_; (repeat (first | refine Then.r ?_ | refine InBlk.r ?_)))
    exact ⟨_, rfl, by rw [idxF_miss hz], rfl⟩
set_option maxRecDepth 100000 in
theorem contains_ok {m : AM} {v : Value} {l : List Int} {x : Int} (h : Ints m v l) (hn : l.length ≤ 100000) : ACall Try.prog 75 #[v, .int .i64 x] m (Ret (.bool ((List.range l.length).any (fun k => decide (l.getD k 0 = x)))) m) := by
  refine ACall.start Try.func75 rfl rfl ?_
  (repeat (first | (with_reducible refine AWo.cons ?_) | ((with_reducible refine Step.id ?_); first | ((with_reducible apply Step.move); exact rfl; exact rfl) | ((with_reducible apply Step.assign); exact rfl; exact rfl) | ((with_reducible apply Step.geq); exact rfl; exact rfl; exact rfl) | ((with_reducible apply Step.callR fit); exact rfl; exact Try.func77; exact rfl; exact rfl; exact (index_ok (h.old _) hn))) | (with_reducible refine AWo.nil ?_) | ((with_reducible apply AW.seq)) | ((with_reducible apply Then.n)) | ((with_reducible apply AW.regL))))
  (refine AW.retD (l := [(4, _)]) (by repeat (first | exact trivial | (refine And.intro ⟨rfl, by (exact .bool _)⟩ ?_))) ?_; (repeat (first | refine Then.r ?_ | refine InBlk.r ?_)))
  exact ⟨_, rfl, by rw [idxF_any], rfl⟩
/-- The numbers below n of which g says yes. -/
def selL (g : Nat → Bool) (n : Nat) : List Int := nats ((List.range n).filter g)
theorem selL_len (g : Nat → Bool) (n : Nat) : (selL g n).length = cN g n := by rw [cN_filter]; unfold selL; rw [nats_len]
theorem selL_yes {g : Nat → Bool} {n : Nat} (h : g n = true) : selL g (n + 1) = selL g n ++ [((n : Nat) : Int)] := by
  unfold selL nats; rw [List.range_succ, List.filter_append]; simp [h]
theorem selL_no {g : Nat → Bool} {n : Nat} (h : g n = false) : selL g (n + 1) = selL g n := by
  unfold selL nats; rw [List.range_succ, List.filter_append]; simp [h]
/-- Blocks that lie somewhere, apart from each other. -/
structure Mz (n : Nat) (B : AM) (A : Nat → Bool) (ct : Nat → List Value) (p : Nat → Nat) (m : AM) : Prop where
  pre : ∃ N, m = B ++ N
  ar : ∀ k, k < n → A k = true → B.length ≤ p k ∧ m[p k]? = some (some { cells := ct k })
  dj : ∀ j k, j < n → k < n → A j = true → A k = true → p j = p k → j = k
section
variable {n : Nat} {B : AM} {A A' : Nat → Bool} {ct ct' : Nat → List Value} {p p' : Nat → Nat} {m : AM}
theorem Mz.congr (h : Mz n B A ct p m) (hA : ∀ k, k < n → A' k = A k) (hc : ∀ k, k < n → A k = true → ct' k = ct k) : Mz n B A' ct' p m :=
  ⟨h.pre, fun k hk ha => by rw [hA k hk] at ha; rw [hc k hk ha]; exact h.ar k hk ha, fun j k hj hk h1 h2 => h.dj j k hj hk (by rw [← hA j hj]; exact h1) (by rw [← hA k hk]; exact h2)⟩
theorem Mz.new (h : Mz n B A ct p m) {k : Nat} (z : List Value) (ha : A k = false) : Mz n B (upL A k) (up ct k z) (up p k m.length) (m ++ [some { cells := z }]) := by
  have hlt : ∀ j, j < n → A j = true → p j < m.length := fun j hj h1 => (List.getElem?_eq_some_iff.1 (h.ar j hj h1).2).1
  obtain ⟨N, hN⟩ := h.pre
  refine ⟨⟨N ++ [some { cells := z }], by rw [hN, List.append_assoc]⟩, fun j hj haj => ?_, fun i j hi hj hai haj e => ?_⟩
  · by_cases e : j = k
    · subst e
      rw [up_same, up_same]
      exact ⟨by rw [hN]; simp, by simp⟩
    · rw [upL_ne A e] at haj
      rw [up_ne _ _ e, up_ne _ _ e]
      exact ⟨(h.ar j hj haj).1, get_old _ (h.ar j hj haj).2⟩
  · by_cases e1 : i = k
    · by_cases e2 : j = k
      · rw [e1, e2]
      · rw [upL_ne A e2] at haj
        rw [e1, up_same, up_ne _ _ e2] at e
        have := hlt j hj haj; omega
    · rw [upL_ne A e1] at hai
      by_cases e2 : j = k
      · rw [e2, up_same, up_ne _ _ e1] at e
        have := hlt i hi hai; omega
      · rw [upL_ne A e2] at haj
        rw [up_ne _ _ e1, up_ne _ _ e2] at e
        exact h.dj i j hi hj hai haj e
theorem Mz.store (h : Mz n B A ct p m) {k : Nat} (c : List Value) (hk : k < n) (ha : A k = true) : Mz n B A (up ct k c) p (m.set (p k) (some { cells := c })) := by
  have hlt := (List.getElem?_eq_some_iff.1 (h.ar k hk ha).2).1
  have hge := (h.ar k hk ha).1
  obtain ⟨N, hN⟩ := h.pre
  refine ⟨⟨N.set (p k - B.length) (some { cells := c }), by rw [hN, List.set_append_right _ _ hge]⟩, fun j hj haj => ⟨(h.ar j hj haj).1, ?_⟩, h.dj⟩
  by_cases e : j = k
  · subst e
    rw [up_same, List.getElem?_set_self hlt]
  · rw [up_ne _ _ e, List.getElem?_set_ne fun q => e (h.dj j k hj hk haj ha q.symm)]
    exact (h.ar j hj haj).2
end
end Go.Proofs.Ytajpngnphbdnnaa.Abs
namespace Go.Proofs.Ytajpngnphbdnnaa.Abs
set_option linter.unusedSimpArgs false
set_option linter.unusedVariables false
open Go.RowKit
open Go.Proofs.Ytajpngnphbdnnaa.Sim
open Go.Proofs
open Hung
def Prs (m : AM) (v : Value) (X : List (Nat × Nat)) : Prop := ∃ a o, Sl v a o X.length ∧ a < m.length ∧ ∀ k, k < X.length → RdL m a (o + k * 2) [.int .i64 (((X.getD k (0, 0)).1 : Nat) : Int), .int .i64 (((X.getD k (0, 0)).2 : Nat) : Int)]
theorem Prs.old {m : AM} {v : Value} {X : List (Nat × Nat)} (L : AM) (h : Prs m v X) : Prs (m ++ L) v X := by
  obtain ⟨a, o, h1, h2, h3⟩ := h
  exact ⟨a, o, h1, by simp; omega, fun k hk => (h3 k hk).old L⟩
section
variable {P : Program} {nt : Nat} {ops : Array Oper} {t : Fm} {m : AM} {K : Fm → AM → Prop} {d T : Nat} {p : String} {af : Array Edge}
end
end Go.Proofs.Ytajpngnphbdnnaa.Abs
namespace Go.Proofs.Ytajpngnphbdnnaa.Abs
set_option linter.unusedSimpArgs false
set_option linter.unusedVariables false
open Go.RowKit
open Go.Proofs.Ytajpngnphbdnnaa.Sim
open Go.Proofs
open Hung
/-- A row that grew at a place between lo and hi. -/
def Row1 (M : AM) (lo hi : Nat) (v : Value) (X : List Int) : Prop := (X = [] ∧ v = .slice none 0 0) ∨ (0 < X.length ∧ ∃ s, lo ≤ s ∧ s < hi ∧ v = .slice (some ⟨s, 0, none⟩) X.length X.length ∧ M[s]? = some (some { cells := iv X, kind := .grow, size := 1 }))
theorem Row1.keep {M M' : AM} {lo hi hi' : Nat} {v : Value} {X : List Int} (h : Row1 M lo hi v X) (hh : hi ≤ hi') (hk : ∀ s, lo ≤ s → s < hi → M[s]? = some (some { cells := iv X, kind := .grow, size := 1 }) → M'[s]? = M[s]?) : Row1 M' lo hi' v X := by
  rcases h with h | ⟨h1, s, h2, h3, h4, h5⟩
  · exact .inl h
  · exact .inr ⟨h1, s, h2, by omega, h4, by rw [hk s h2 h3 h5]; exact h5⟩
theorem Row1.ints {M : AM} {lo hi : Nat} {v : Value} {X : List Int} (h : Row1 M lo hi v X) (hM : 0 < M.length) : Ints M v X := by
  rcases h with ⟨rfl, rfl⟩ | ⟨h1, s, h2, h3, rfl, h5⟩
  · exact ints_nil hM
  · exact ints_at h5 rfl _ rfl
/-- The graph while it is made: rows before k are done, of row k what lies below j. -/
structure GI (M : AM) (W B n k j : Nat) (adj : Nat → Nat → Bool) (ws : List Value) : Prop where
  len : ws.length = n
  w : M[W]? = some (some { cells := ws })
  lo : W + 2 ≤ B
  hi : B ≤ M.length
  fin : ∀ i, i < k → ∃ v, ws[i]? = some v ∧ Row1 M (W + 2) B v (selL (adj i) n)
  cur : k < n → ∃ v, ws[k]? = some v ∧ Row1 M B M.length v (selL (adj k) j)
  rest : ∀ i, k < i → i < n → ws[i]? = some (.slice none 0 0)
section
variable {M : AM} {W B n k j : Nat} {adj : Nat → Nat → Bool} {ws : List Value}
theorem GI.old (h : GI M W B n k j adj ws) (L : AM) : GI (M ++ L) W B n k j adj ws :=
  ⟨h.len, get_old _ h.w, h.lo, by have := h.hi; simp; omega, fun i hi => by
    obtain ⟨v, h1, h2⟩ := h.fin i hi
    exact ⟨v, h1, h2.keep (Nat.le_refl _) fun s _ hs _ => List.getElem?_append_left (by have := h.hi; omega)⟩, fun hk => by
    obtain ⟨v, h1, h2⟩ := h.cur hk
    exact ⟨v, h1, h2.keep (by simp) fun s _ hs _ => List.getElem?_append_left hs⟩, h.rest⟩
theorem GI.skip (h : GI M W B n k j adj ws) (ha : adj k j = false) : GI M W B n k (j + 1) adj ws :=
  ⟨h.len, h.w, h.lo, h.hi, h.fin, fun hk => by rw [selL_no ha]; exact h.cur hk, h.rest⟩
theorem GI.next (h : GI M W B n k n adj ws) (hk : k < n) : GI M W M.length n (k + 1) 0 adj ws :=
  ⟨h.len, h.w, by have := h.lo; have := h.hi; omega, Nat.le_refl _, fun i hi => by
    by_cases e : i = k
    · subst e
      obtain ⟨v, h1, h2⟩ := h.cur hk
      refine ⟨v, h1, ?_⟩
      rcases h2 with h2 | ⟨q1, s, q2, q3, q4, q5⟩
      · exact .inl h2
      · exact .inr ⟨q1, s, by have := h.lo; omega, q3, q4, q5⟩
    · obtain ⟨v, h1, h2⟩ := h.fin i (by omega)
      exact ⟨v, h1, h2.keep h.hi fun _ _ _ _ => rfl⟩, fun hk' => ⟨_, h.rest (k + 1) (by omega) hk', .inl ⟨rfl, rfl⟩⟩, fun i h1 h2 => h.rest i (by omega) h2⟩
theorem GI.addN (h : GI M W B n k j adj ws) (hk : k < n) (ha : adj k j = true) (hX : selL (adj k) j = []) :
    GI ((M ++ [some ({ cells := [.int .i64 (j : Nat)], kind := .grow, size := 1 } : Blk)]).set W (some { cells := ws.set k (.slice (some ⟨M.length, 0, none⟩) 1 1) })) W B n k (j + 1) adj (ws.set k (.slice (some ⟨M.length, 0, none⟩) 1 1)) := by
  have hW := (List.getElem?_eq_some_iff.1 h.w).1
  have hlo := h.lo
  have hhi := h.hi
  have hsel : selL (adj k) (j + 1) = [((j : Nat) : Int)] := by rw [selL_yes ha, hX]; rfl
  refine ⟨by rw [List.length_set]; exact h.len, by rw [List.getElem?_set_self (by simp; omega)], hlo, by simp; omega, fun i hi => ?_, fun _ => ?_, fun i h1 h2 => by rw [List.getElem?_set_ne (by omega)]; exact h.rest i h1 h2⟩
  · obtain ⟨v, h1, h2⟩ := h.fin i hi
    exact ⟨v, by rw [List.getElem?_set_ne (by omega)]; exact h1, h2.keep (Nat.le_refl _) fun s q1 q2 _ => by rw [List.getElem?_set_ne (by omega), List.getElem?_append_left (by omega)]⟩
  · refine ⟨_, List.getElem?_set_self (by rw [h.len]; exact hk), .inr ⟨by rw [hsel]; simp, M.length, hhi, by simp, by rw [hsel]; rfl, ?_⟩⟩
    rw [List.getElem?_set_ne (by omega), hsel]
    simp [iv]
theorem GI.addB (h : GI M W B n k j adj ws) (hk : k < n) (ha : adj k j = true) {s q : Nat} {X : List Int} (hX : selL (adj k) j = X) (hq : X.length = q) (hs : B ≤ s ∧ s < M.length) :
    GI (((M.set s none) ++ [some ({ cells := iv X ++ [.int .i64 (j : Nat)], kind := .grow, size := 1 } : Blk)]).set W (some { cells := ws.set k (.slice (some ⟨M.length, 0, none⟩) (q + 1) (q + 1)) })) W B n k (j + 1) adj (ws.set k (.slice (some ⟨M.length, 0, none⟩) (q + 1) (q + 1))) := by
  have hW := (List.getElem?_eq_some_iff.1 h.w).1
  have hlo := h.lo
  have hhi := h.hi
  have hsel : selL (adj k) (j + 1) = X ++ [((j : Nat) : Int)] := by rw [selL_yes ha, hX]
  refine ⟨by rw [List.length_set]; exact h.len, by rw [List.getElem?_set_self (by simp; omega)], hlo, by simp; omega, fun i hi => ?_, fun _ => ?_, fun i h1 h2 => by rw [List.getElem?_set_ne (by omega)]; exact h.rest i h1 h2⟩
  · obtain ⟨v, h1, h2⟩ := h.fin i hi
    exact ⟨v, by rw [List.getElem?_set_ne (by omega)]; exact h1, h2.keep (Nat.le_refl _) fun x q1 q2 _ => by rw [List.getElem?_set_ne (by omega), List.getElem?_append_left (by simp; omega), List.getElem?_set_ne (by omega)]⟩
  · refine ⟨_, List.getElem?_set_self (by rw [h.len]; exact hk), .inr ⟨by rw [hsel]; simp, M.length, hhi, by simp, by rw [hsel, List.length_append, hq]; rfl, ?_⟩⟩
    rw [List.getElem?_set_ne (by omega), hsel, List.getElem?_append_right (by simp)]
    simp [iv]
end
section
variable {P : Program} {nt : Nat} {ops : Array Oper} {t : Fm} {m : AM} {K : Fm → AM → Prop} {T : Nat} {pp : String} {af : Array Edge}
/-- A cell of a row is set. -/
theorem Step.storeW {x y : Operand} {ty : TypeId} {a o : Nat} {v : Value} {ws : List Value} {M2 : AM} (hx : evo t x = some (.pointer (some ⟨a, o, none⟩))) (hy : evo t y = some v) (hb : m[a]? = some (some { cells := ws })) (ho : o < ws.length) (hz : szB P ty = some 1) (hc : v.cells = #[v]) (h1 : v.oneCell' = true) (hM : m.set a (some { cells := ws.set o v }) = M2) (hK : K t M2) :
    Step P nt ops ⟨none, .store ty x y, T, pp, af, none⟩ t m K :=
  Step.storeC hx hy hb rfl hz hc h1 ho (by subst hM; exact hK)
end
/-- Which gloves of a heap are allowed with each other. -/
def ag (u : Ru) (H : List Gl) (i j : Nat) : Bool := decide (i ≠ j) && decide (0 ≤ cT u H H i j)
/-- The graph of a heap. -/
def Grf (M : AM) (v : Value) (n : Nat) (adj : Nat → Nat → Bool) : Prop := ∃ a wv b, v = .pointer (some ⟨a, 0, none⟩) ∧ a < M.length ∧ Rd M a 0 (.int .i64 (n : Nat)) ∧ Rd M a 1 wv ∧ Sl wv b 0 n ∧ b < M.length ∧ ∀ i, i < n → ∃ w, Rd M b i w ∧ Ints M w (selL (adj i) n)
theorem Grf.old {M : AM} {v : Value} {n : Nat} {adj : Nat → Nat → Bool} (L : AM) (h : Grf M v n adj) : Grf (M ++ L) v n adj := by
  obtain ⟨a, wv, b, h1, h2, h3, h4, h5, h6, h7⟩ := h
  exact ⟨a, wv, b, h1, by simp; omega, h3.old L, h4.old L, h5, by simp; omega, fun i hi => by
    obtain ⟨w, k1, k2⟩ := h7 i hi
    exact ⟨w, k1.old L, k2.old L⟩⟩
theorem bl105 {n : Int} {q : Option Addr} {a b : Nat} : abuild Try.prog 105 [(0, .int .i64 n), (1, .slice q a b)] = some (.agg #[.int .i64 n, .slice q a b]) := by kernel_rfl
set_option maxRecDepth 100000 in
theorem heaped_no {m : AM} {hv : Value} {u : Ru} {H : List Gl} (hh : Gls m hv H) (h1 : H.length ≤ 100000) (hn : (sB H && uB u) = false) : ACall Try.prog 74 #[hv, u.v] m (Ret (.pointer none) m) := by
  have c1 := fun T => side_ok (hh.old T) h1 rfl
  have c3 := fun T => uright_ok (m := m ++ T) u rfl
  have r0 : ∀ T : AM, RdL (m ++ (some { cells := u.cells } :: T)) (m.length + 0) 0 u.cells := fun T => RdL.new rfl rfl
  refine ACall.start Try.func74 rfl rfl ?_
  cases e1 : sB H with
  | false =>
    rw [e1] at c1
    (repeat (first | (with_reducible refine AWo.cons ?_) | ((with_reducible refine Step.id ?_); first | ((with_reducible apply Step.gdF); exact rfl; exact rfl; (focus (rfl))) | ((with_reducible apply Step.move); exact rfl; exact rfl) | ((with_reducible apply Step.assign); exact rfl; exact rfl) | ((with_reducible apply Step.not); exact rfl; exact rfl) | ((with_reducible apply Step.pickT); exact rfl; exact rfl; exact rfl; exact rfl; (focus (rfl))) | ((with_reducible apply Step.callR fit); exact rfl; exact Try.func87; exact rfl; exact rfl; exact (c1 _)) | ((with_reducible apply Step.box 0); exact rfl; exact rfl; (focus (kernel_rfl)); exact rfl; (focus (first | (simp only [List.nil_append, List.cons_append, List.set_cons_zero, List.set_cons_succ, iv_set, bv_set, iv_rep, bv_rep]; done) | (simp only [List.nil_append, List.cons_append, List.set_cons_zero, List.set_cons_succ, iv_set, bv_set, iv_rep, bv_rep]; rfl) | rfl)))) | (with_reducible refine AWo.nil ?_) | ((with_reducible apply AW.seq)) | ((with_reducible apply Then.n)) | ((with_reducible apply AW.regL)) | ((with_reducible apply AW.condT); exact rfl; (focus (rfl)))))
    (refine AW.retD (l := [(4, _)]) (by repeat (first | exact trivial | (refine And.intro ⟨rfl, by (exact Ren.of_g0 rfl)⟩ ?_))) ?_; (repeat (first | refine Then.r ?_ | refine InBlk.r ?_)))
    exact ⟨_, rfl, rfl, rfl⟩
  | true =>
    rw [e1] at c1 hn
    have e3 : uB u = false := by simpa using hn
    rw [e3] at c3
    (repeat (first | (with_reducible refine AWo.cons ?_) | ((with_reducible refine Step.id ?_); first | ((with_reducible apply Step.gdT); exact rfl; exact rfl; (focus (rfl))) | ((with_reducible apply Step.move); exact rfl; exact rfl) | ((with_reducible apply Step.assign); exact rfl; exact rfl) | ((with_reducible apply Step.loadL (n := 8)); exact rfl; (focus (decide +kernel)); (focus (decide +kernel)); exact rfl; (focus (exact RdL.new rfl rfl)); exact rfl; exact rfl) | ((with_reducible apply Step.not); exact rfl; exact rfl) | ((with_reducible apply Step.pickF); exact rfl; exact rfl; exact rfl; exact rfl; (focus (rfl))) | ((with_reducible apply Step.callR fit); exact rfl; exact Try.func87; exact rfl; exact rfl; exact (c1 _)) | ((with_reducible apply Step.callR fit); exact rfl; exact Try.func65; exact rfl; exact rfl; exact (c3 _)) | ((with_reducible apply Step.box 0); exact rfl; exact rfl; (focus (kernel_rfl)); exact rfl; (focus (first | (simp only [List.nil_append, List.cons_append, List.set_cons_zero, List.set_cons_succ, iv_set, bv_set, iv_rep, bv_rep]; done) | (simp only [List.nil_append, List.cons_append, List.set_cons_zero, List.set_cons_succ, iv_set, bv_set, iv_rep, bv_rep]; rfl) | rfl)))) | (with_reducible refine AWo.nil ?_) | ((with_reducible apply AW.seq)) | ((with_reducible apply Then.n)) | ((with_reducible apply AW.regL)) | ((with_reducible apply AW.condT); exact rfl; (focus (rfl)))))
    (refine AW.retD (l := [(4, _)]) (by repeat (first | exact trivial | (refine And.intro ⟨rfl, by (exact Ren.of_g0 rfl)⟩ ?_))) ?_; (repeat (first | refine Then.r ?_ | refine InBlk.r ?_)))
    exact ⟨_, rfl, rfl, rfl⟩
set_option maxHeartbeats 8000000 in
set_option maxRecDepth 100000 in
theorem heaped_ok {m : AM} {hv : Value} {u : Ru} {H : List Gl} (hh : Gls m hv H) (hH : sB H = true) (hu : uB u = true) : ACall Try.prog 74 #[hv, u.v] m (More (fun M v => Grf M v H.length (ag u H)) m) := by
  have h1 : H.length ≤ 32 ∧ H.all gB = true := by simpa [sB] using hH
  have h3 : gB u.w = true ∧ gB u.l = true := by simpa [uB] using hu
  have c1 := fun T => side_ok (hh.old T) (by omega) hH
  have c3 := fun T => uright_ok (m := m ++ T) u hu
  have r0 : ∀ T : AM, RdL (m ++ (some { cells := u.cells } :: T)) (m.length + 0) 0 u.cells := fun T => RdL.new rfl rfl
  obtain ⟨ha, ho, l1, l2, l3⟩ := id hh
  refine ACall.start Try.func74 rfl rfl ?_
  (repeat (first | (with_reducible refine AWo.cons ?_) | ((with_reducible refine Step.id ?_); first | ((with_reducible apply Step.gdT); exact rfl; exact rfl; (focus (rfl))) | ((with_reducible apply Step.move); exact rfl; exact rfl) | ((with_reducible apply Step.assign); exact rfl; exact rfl) | ((with_reducible apply Step.loadL (n := 8)); exact rfl; (focus (decide +kernel)); (focus (decide +kernel)); exact rfl; (focus (exact RdL.new rfl rfl)); exact rfl; exact rfl) | ((with_reducible apply Step.len); exact rfl; (focus (assumption)); (focus (decide +kernel)); exact rfl) | ((with_reducible apply Step.not); exact rfl; exact rfl) | ((with_reducible apply Step.pickF); exact rfl; exact rfl; exact rfl; exact rfl; (focus (rfl))) | ((with_reducible apply Step.callR fit); exact rfl; exact Try.func87; exact rfl; exact rfl; exact (c1 _)) | ((with_reducible apply Step.callR fit); exact rfl; exact Try.func65; exact rfl; exact rfl; exact (c3 _)) | ((with_reducible apply Step.box 0); exact rfl; exact rfl; (focus (kernel_rfl)); exact rfl; (focus (first | (simp only [List.nil_append, List.cons_append, List.set_cons_zero, List.set_cons_succ, iv_set, bv_set, iv_rep, bv_rep]; done) | (simp only [List.nil_append, List.cons_append, List.set_cons_zero, List.set_cons_succ, iv_set, bv_set, iv_rep, bv_rep]; rfl) | rfl))) | ((with_reducible apply Step.make1 1); exact rfl; exact rfl; exact rfl; exact el80; (focus (omega)); exact rfl; (focus (first | (simp only [List.nil_append, List.cons_append, List.set_cons_zero, List.set_cons_succ, iv_set, bv_set, iv_rep, bv_rep]; done) | (simp only [List.nil_append, List.cons_append, List.set_cons_zero, List.set_cons_succ, iv_set, bv_set, iv_rep, bv_rep]; rfl) | rfl))) | ((with_reducible apply Step.box 2); exact rfl; exact rfl; (focus (kernel_rfl)); exact rfl; (focus (first | (simp only [List.nil_append, List.cons_append, List.set_cons_zero, List.set_cons_succ, iv_set, bv_set, iv_rep, bv_rep]; done) | (simp only [List.nil_append, List.cons_append, List.set_cons_zero, List.set_cons_succ, iv_set, bv_set, iv_rep, bv_rep]; rfl) | rfl))) | ((with_reducible apply Step.build); exact rfl; exact bl105; exact rfl)) | (with_reducible refine AWo.nil ?_) | ((with_reducible apply AW.seq)) | ((with_reducible apply Then.n)) | ((with_reducible apply AW.regL)) | ((with_reducible apply AW.block)) | ((with_reducible apply AW.skip)) | ((with_reducible apply AW.condF); exact rfl; (focus (rfl)))))
  clear c1 c3
  obtain ⟨n, hn⟩ : ∃ n, H.length = n := ⟨_, rfl⟩
  rw [hn] at h1 l1 l3 ⊢
  refine AW.loopW (fun rk t M => ∃ (k B : Nat) (N : AM) (ws : List Value), rk = n - k ∧ k ≤ n ∧ M = m ++ N ∧ RdL M (m.length + 0) 0 u.cells ∧ M[m.length + 2]? = some (some { cells := [.int .i64 (n : Nat), .slice (some ⟨m.length + 1, 0, none⟩) n n] }) ∧ GI M (m.length + 1) B n k 0 (ag u H) ws ∧ t = fr [(0, hv), (3, .pointer (some ⟨m.length + 0, 0, none⟩)), (5, .pointer (some ⟨m.length + 2, 0, none⟩)), (25, hv), (26, .int .i64 (n : Nat)), (27, .int .i64 (k : Nat))])
    ⟨_, _, (by repeat (first | exact trivial | (refine And.intro rfl ?_))), 0, m.length + 3, _, List.replicate n (.slice none 0 0), rfl, Nat.zero_le _, rfl, r0 _, by rw [get_app]; rfl, ⟨by simp, by rw [get_app]; rfl, by omega, by simp, fun i h => absurd h (Nat.not_lt_zero _), fun hk => ⟨_, by simp [hk], .inl ⟨rfl, rfl⟩⟩, fun i _ h2 => by simp [h2]⟩, rfl⟩ ?_
  rintro rk t M ⟨k, B, N, ws, rfl, hk, hM, rU, hG, gi, rfl⟩
  have hml : m.length + 2 < M.length := (List.getElem?_eq_some_iff.1 hG).1
  rcases Nat.lt_or_ge k n with hlt | hge
  · have hxv := all_getD h1.2 (show k < H.length by omega)
    have w3 : Low M.length (.pointer (some ⟨m.length + 0, 0, none⟩)) := .ptr (by omega)
    have w5 : Low M.length (.pointer (some ⟨m.length + 2, 0, none⟩)) := .ptr (by omega)
    have wh : Low M.length hv := Low.of_sl l1 (by omega)
    have rx : ∀ T, RdL (M ++ T) ha (ho + k * 4) (H.getD k default).cells := fun T => by rw [hM]; exact ((l3 k hlt).old N).old T
    refine AW.rebase ?_
    (repeat (first | (with_reducible refine AWo.cons ?_) | ((with_reducible refine Step.id ?_); first | ((with_reducible apply Step.move); exact rfl; exact rfl) | ((with_reducible apply Step.assign); exact rfl; exact rfl) | ((with_reducible apply Step.loadL (n := 4)); exact rfl; (focus (decide +kernel)); (focus (decide +kernel)); exact rfl; (focus (exact rx _)); exact rfl; exact rfl) | ((with_reducible apply Step.ix (s := 4)); exact rfl; (focus (assumption)); exact rfl; (focus (decide +kernel)); exact rfl; (focus (omega))) | ((with_reducible apply Step.lss); exact rfl; exact rfl; exact rfl) | ((with_reducible apply Step.len); exact rfl; (focus (assumption)); (focus (decide +kernel)); exact rfl) | ((with_reducible apply Step.alloc 0); exact rfl; exact ze33; exact rfl; (focus (first | (simp only [List.nil_append, List.cons_append, List.set_cons_zero, List.set_cons_succ, iv_set, bv_set, iv_rep, bv_rep]; done) | (simp only [List.nil_append, List.cons_append, List.set_cons_zero, List.set_cons_succ, iv_set, bv_set, iv_rep, bv_rep]; rfl) | rfl))) | ((with_reducible apply Step.storeA (k := 0) (n := 4)); exact rfl; exact rfl; exact rfl; exact rfl; (focus (decide +kernel)); exact rfl; (focus (kernel_rfl)); exact rfl; (focus (first | (simp only [List.nil_append, List.cons_append, List.set_cons_zero, List.set_cons_succ, iv_set, bv_set, iv_rep, bv_rep]; done) | (simp only [List.nil_append, List.cons_append, List.set_cons_zero, List.set_cons_succ, iv_set, bv_set, iv_rep, bv_rep]; rfl) | rfl)))) | (with_reducible refine AWo.nil ?_) | ((with_reducible apply AW.seq)) | ((with_reducible apply Then.n)) | ((with_reducible apply AW.regL)) | ((with_reducible apply AW.block)) | ((with_reducible apply AW.skip)) | ((with_reducible apply AW.condT); exact rfl; (focus ((simp only [decide_eq_true_eq, decide_eq_false_iff_not, Bool.not_eq_true', Bool.not_eq_false', Bool.not_true, Bool.not_false]; first | assumption | omega))))))
    refine AW.loopW (fun rk t M2 => ∃ (j : Nat) (N2 : AM) (ws2 : List Value), rk = n - j ∧ j ≤ n ∧ M2 = m ++ N2 ∧ M2[M.length + 0]? = some (some { cells := (H.getD k default).cells }) ∧ RdL M2 (m.length + 0) 0 u.cells ∧ M2[m.length + 2]? = some (some { cells := [.int .i64 (n : Nat), .slice (some ⟨m.length + 1, 0, none⟩) n n] }) ∧ GI M2 (m.length + 1) B n k j (ag u H) ws2 ∧ t = fr [(0, hv), (3, .pointer (some ⟨m.length + 0, 0, none⟩)), (5, .pointer (some ⟨m.length + 2, 0, none⟩)), (25, hv), (26, .int .i64 (n : Nat)), (27, .int .i64 (k : Nat)), (6, .int .i64 (k : Nat)), (7, .pointer (some ⟨M.length + 0, 0, none⟩)), (32, hv), (33, .int .i64 (n : Nat)), (34, .int .i64 (j : Nat))])
      ⟨_, _, (by repeat (first | exact trivial | (refine And.intro rfl ?_))), 0, N ++ [some { cells := (H.getD k default).cells }], ws, rfl, Nat.zero_le _, by rw [hM, List.append_assoc]; rfl, by rw [get_app]; rfl, rU.old _, get_old _ hG, gi.old _, rfl⟩ ?_
    rintro rk t M2 ⟨j, N2, ws2, rfl, hj, hM2, hA2, rU2, hG2, gi2, rfl⟩
    have hml2 : M.length + 0 < M2.length := (List.getElem?_eq_some_iff.1 hA2).1
    have ra : RdL M2 (M.length + 0) 0 (H.getD k default).cells := ⟨_, hA2, fun q v h => by rw [Nat.zero_add]; exact h⟩
    rcases Nat.lt_or_ge j n with hjl | hjg
    · have hyv := all_getD h1.2 (show j < H.length by omega)
      have hpre : ∀ T, ∃ N', M2 ++ T = m ++ N' := fun T => ⟨_, by rw [hM2, List.append_assoc]⟩
      have ry : ∀ T, RdL (M2 ++ T) ha (ho + j * 4) (H.getD j default).cells := fun T => by rw [hM2]; exact ((l3 j hjl).old N2).old T
      have hcst := fun T => cost_ok (m := M2 ++ T) u _ _ h3.1 h3.2 hxv hyv rfl
      have ecT : cT u H H k j = costF u (H.getD k default) (H.getD j default) := if_pos ⟨by omega, by omega⟩
      rw [← ecT] at hcst
      have w3' : Low M2.length (.pointer (some ⟨m.length + 0, 0, none⟩)) := .ptr (by omega)
      have w5' : Low M2.length (.pointer (some ⟨m.length + 2, 0, none⟩)) := .ptr (by omega)
      have w7' : Low M2.length (.pointer (some ⟨M.length + 0, 0, none⟩)) := .ptr (by omega)
      have wh' : Low M2.length hv := Low.of_sl l1 (by omega)
      have hno : ag u H k j = false → ∀ (T : AM), ∃ N', M2 ++ T = m ++ N' ∧ (M2 ++ T)[M.length + 0]? = some (some { cells := (H.getD k default).cells }) ∧ RdL (M2 ++ T) (m.length + 0) 0 u.cells ∧ (M2 ++ T)[m.length + 2]? = some (some { cells := [.int .i64 (n : Nat), .slice (some ⟨m.length + 1, 0, none⟩) n n] }) ∧ GI (M2 ++ T) (m.length + 1) B n k (j + 1) (ag u H) ws2 := fun ha T => by
        obtain ⟨N', hN'⟩ := hpre T
        exact ⟨N', hN', get_old _ hA2, rU2.old _, get_old _ hG2, (gi2.old T).skip ha⟩
      refine AW.rebase ?_
      by_cases hkj : (k : Int) = (j : Int)
      · obtain ⟨N', e1, e2, e3, e4, e5⟩ := hno (by unfold ag; rw [decide_eq_false (by omega)]; rfl) [some { cells := (H.getD j default).cells }]
        (repeat (first | (with_reducible refine AWo.cons ?_) | ((with_reducible refine Step.id ?_); first | ((with_reducible apply Step.gdF); exact rfl; exact rfl; (focus ((simp only [decide_eq_true_eq, decide_eq_false_iff_not, Bool.not_eq_true', Bool.not_eq_false', Bool.not_true, Bool.not_false]; first | assumption | omega)))) | ((with_reducible apply Step.move); exact rfl; exact rfl) | ((with_reducible apply Step.assign); exact rfl; exact rfl) | ((with_reducible apply Step.loadL (n := 4)); exact rfl; (focus (decide +kernel)); (focus (decide +kernel)); exact rfl; (focus (exact ry _)); exact rfl; exact rfl) | ((with_reducible apply Step.ix (s := 4)); exact rfl; (focus (assumption)); exact rfl; (focus (decide +kernel)); exact rfl; (focus (omega))) | ((with_reducible apply Step.add); exact rfl; exact rfl; (focus (omega)); exact rfl) | ((with_reducible apply Step.lss); exact rfl; exact rfl; exact rfl) | ((with_reducible apply Step.neq); exact rfl; exact rfl; exact rfl) | ((with_reducible apply Step.pickF); exact rfl; exact rfl; exact rfl; exact rfl; (focus ((simp only [decide_eq_true_eq, decide_eq_false_iff_not, Bool.not_eq_true', Bool.not_eq_false', Bool.not_true, Bool.not_false]; first | assumption | omega)))) | ((with_reducible apply Step.alloc 0); exact rfl; exact ze33; exact rfl; (focus (first | (simp only [List.nil_append, List.cons_append, List.set_cons_zero, List.set_cons_succ, iv_set, bv_set, iv_rep, bv_rep]; done) | (simp only [List.nil_append, List.cons_append, List.set_cons_zero, List.set_cons_succ, iv_set, bv_set, iv_rep, bv_rep]; rfl) | rfl))) | ((with_reducible apply Step.storeA (k := 0) (n := 4)); exact rfl; exact rfl; exact rfl; exact rfl; (focus (decide +kernel)); exact rfl; (focus (kernel_rfl)); exact rfl; (focus (first | (simp only [List.nil_append, List.cons_append, List.set_cons_zero, List.set_cons_succ, iv_set, bv_set, iv_rep, bv_rep]; done) | (simp only [List.nil_append, List.cons_append, List.set_cons_zero, List.set_cons_succ, iv_set, bv_set, iv_rep, bv_rep]; rfl) | rfl)))) | (with_reducible refine AWo.nil ?_) | ((with_reducible apply AW.seq)) | ((with_reducible apply Then.n)) | ((with_reducible apply AW.regL)) | ((with_reducible apply AW.block)) | ((with_reducible apply InBlk.n)) | ((with_reducible apply AW.skip)) | ((with_reducible apply AW.condT); exact rfl; (focus ((simp only [decide_eq_true_eq, decide_eq_false_iff_not, Bool.not_eq_true', Bool.not_eq_false', Bool.not_true, Bool.not_false]; first | assumption | omega)))) | ((with_reducible apply AW.condF); exact rfl; (focus (rfl)))))
        exact ⟨_, [(0, hv), (3, .pointer (some ⟨m.length + 0, 0, none⟩)), (5, .pointer (some ⟨m.length + 2, 0, none⟩)), (25, hv), (26, .int .i64 (n : Nat)), (27, .int .i64 (k : Nat)), (6, .int .i64 (k : Nat)), (7, .pointer (some ⟨M.length + 0, 0, none⟩)), (32, hv), (33, .int .i64 (n : Nat)), (34, .int .i64 ((j + 1 : Nat) : Int))], by omega, (by repeat (first | exact trivial | (refine And.intro rfl ?_))), j + 1, N', ws2, rfl, by omega, e1, e2, e3, e4, e5, rfl⟩
      · by_cases hc : cT u H H k j < 0
        · obtain ⟨N', e1, e2, e3, e4, e5⟩ := hno (by unfold ag; rw [decide_eq_false (p := 0 ≤ cT u H H k j) (by omega)]; simp) [some { cells := (H.getD j default).cells }]
          (repeat (first | (with_reducible refine AWo.cons ?_) | ((with_reducible refine Step.id ?_); first | ((with_reducible apply Step.gdT); exact rfl; exact rfl; (focus ((simp only [decide_eq_true_eq, decide_eq_false_iff_not, Bool.not_eq_true', Bool.not_eq_false', Bool.not_true, Bool.not_false]; first | assumption | omega)))) | ((with_reducible apply Step.move); exact rfl; exact rfl) | ((with_reducible apply Step.assign); exact rfl; exact rfl) | ((with_reducible apply Step.loadL (n := 4)); exact rfl; (focus (decide +kernel)); (focus (decide +kernel)); exact rfl; (focus (first | exact RdL.new rfl rfl | exact RdL.old _ (by assumption) | exact ry _)); exact rfl; exact rfl) | ((with_reducible apply Step.loadL (n := 8)); exact rfl; (focus (decide +kernel)); (focus (decide +kernel)); exact rfl; (focus (assumption)); exact rfl; exact rfl) | ((with_reducible apply Step.ix (s := 4)); exact rfl; (focus (assumption)); exact rfl; (focus (decide +kernel)); exact rfl; (focus (omega))) | ((with_reducible apply Step.add); exact rfl; exact rfl; (focus (omega)); exact rfl) | ((with_reducible apply Step.lss); exact rfl; exact rfl; exact rfl) | ((with_reducible apply Step.geq); exact rfl; exact rfl; exact rfl) | ((with_reducible apply Step.neq); exact rfl; exact rfl; exact rfl) | ((with_reducible apply Step.pickT); exact rfl; exact rfl; exact rfl; exact rfl; (focus ((simp only [decide_eq_true_eq, decide_eq_false_iff_not, Bool.not_eq_true', Bool.not_eq_false', Bool.not_true, Bool.not_false]; first | assumption | omega)))) | ((with_reducible apply Step.callR fit); exact rfl; exact Try.func66; exact rfl; exact rfl; exact (hcst _)) | ((with_reducible apply Step.alloc 0); exact rfl; exact ze33; exact rfl; (focus (first | (simp only [List.nil_append, List.cons_append, List.set_cons_zero, List.set_cons_succ, iv_set, bv_set, iv_rep, bv_rep]; done) | (simp only [List.nil_append, List.cons_append, List.set_cons_zero, List.set_cons_succ, iv_set, bv_set, iv_rep, bv_rep]; rfl) | rfl))) | ((with_reducible apply Step.storeA (k := 0) (n := 4)); exact rfl; exact rfl; exact rfl; exact rfl; (focus (decide +kernel)); exact rfl; (focus (kernel_rfl)); exact rfl; (focus (first | (simp only [List.nil_append, List.cons_append, List.set_cons_zero, List.set_cons_succ, iv_set, bv_set, iv_rep, bv_rep]; done) | (simp only [List.nil_append, List.cons_append, List.set_cons_zero, List.set_cons_succ, iv_set, bv_set, iv_rep, bv_rep]; rfl) | rfl)))) | (with_reducible refine AWo.nil ?_) | ((with_reducible apply AW.seq)) | ((with_reducible apply Then.n)) | ((with_reducible apply AW.regL)) | ((with_reducible apply AW.block)) | ((with_reducible apply InBlk.n)) | ((with_reducible apply AW.skip)) | ((with_reducible apply AW.condT); exact rfl; (focus ((simp only [decide_eq_true_eq, decide_eq_false_iff_not, Bool.not_eq_true', Bool.not_eq_false', Bool.not_true, Bool.not_false]; first | assumption | omega)))) | ((with_reducible apply AW.condF); exact rfl; (focus ((simp only [decide_eq_true_eq, decide_eq_false_iff_not, Bool.not_eq_true', Bool.not_eq_false', Bool.not_true, Bool.not_false]; first | assumption | omega))))))
          exact ⟨_, [(0, hv), (3, .pointer (some ⟨m.length + 0, 0, none⟩)), (5, .pointer (some ⟨m.length + 2, 0, none⟩)), (25, hv), (26, .int .i64 (n : Nat)), (27, .int .i64 (k : Nat)), (6, .int .i64 (k : Nat)), (7, .pointer (some ⟨M.length + 0, 0, none⟩)), (32, hv), (33, .int .i64 (n : Nat)), (34, .int .i64 ((j + 1 : Nat) : Int))], by omega, (by repeat (first | exact trivial | (refine And.intro rfl ?_))), j + 1, N', ws2, rfl, by omega, e1, e2, e3, e4, e5, rfl⟩
        · have hag : ag u H k j = true := by unfold ag; rw [decide_eq_true (by omega), decide_eq_true (by omega)]; rfl
          obtain ⟨v, hv1, hrow⟩ := gi2.cur hlt
          have rg0 : Rd M2 (m.length + 2) (0 + 1) (.slice (some ⟨m.length + 1, 0, none⟩) n n) := ⟨_, hG2, rfl⟩
          have rv0 : Rd M2 (m.length + 1) k v := ⟨_, gi2.w, hv1⟩
          have hwl : k < ws2.length := by rw [gi2.len]; exact hlt
          obtain ⟨M3, hM3⟩ : ∃ M3, M2 ++ [some ({ cells := (H.getD j default).cells } : Blk), some ({ cells := [.int .i64 (j : Nat)] } : Blk)] = M3 := ⟨_, rfl⟩
          have hM3' : M2 ++ [some ({ cells := (Value.agg (H.getD j default).cells.toArray).cells.toList } : Blk), some ({ cells := [.int .i64 (j : Nat)] } : Blk)] = M3 := hM3
          have gi3 : GI M3 (m.length + 1) B n k j (ag u H) ws2 := by rw [← hM3]; exact gi2.old _
          have hA3 : M3[M.length + 0]? = some (some { cells := (H.getD k default).cells }) := by rw [← hM3]; exact get_old _ hA2
          have rU3 : RdL M3 (m.length + 0) 0 u.cells := by rw [← hM3]; exact rU2.old _
          have hG3 : M3[m.length + 2]? = some (some { cells := [.int .i64 (n : Nat), .slice (some ⟨m.length + 1, 0, none⟩) n n] }) := by rw [← hM3]; exact get_old _ hG2
          have rg3 : Rd M3 (m.length + 2) (0 + 1) (.slice (some ⟨m.length + 1, 0, none⟩) n n) := ⟨_, hG3, rfl⟩
          have g2 : M3[M2.length + 1]? = some (some { cells := [.int .i64 (j : Nat)] }) := by rw [← hM3, get_app]; rfl
          have hl3 : M3.length = M2.length + 2 := by rw [← hM3]; simp
          have hp3 : ∃ N', M3 = m ++ N' := by rw [← hM3]; exact hpre _
          rcases hrow with ⟨hX, rfl⟩ | ⟨q1, s, q2, q3, rfl, q5⟩
          · obtain ⟨M5, hM5⟩ : ∃ M5, (M3 ++ [some ({ cells := [.int .i64 (j : Nat)], kind := .grow, size := 1 } : Blk)]).set (m.length + 1) (some { cells := ws2.set k (.slice (some ⟨M3.length, 0, none⟩) 1 1) }) = M5 := ⟨_, rfl⟩
            have hW4 : (M3 ++ [some ({ cells := [.int .i64 (j : Nat)], kind := .grow, size := 1 } : Blk)])[m.length + 1]? = some (some { cells := ws2 }) := get_old _ gi3.w
            have gi5 := gi3.addN hlt hag hX
            have hA5 : M5[M.length + 0]? = some (some { cells := (H.getD k default).cells }) := by rw [← hM5, List.getElem?_set_ne (by omega)]; exact get_old _ hA3
            have rU5 : RdL M5 (m.length + 0) 0 u.cells := by rw [← hM5]; exact (rU3.old _).set (by omega)
            have hG5 : M5[m.length + 2]? = some (some { cells := [.int .i64 (n : Nat), .slice (some ⟨m.length + 1, 0, none⟩) n n] }) := by rw [← hM5, List.getElem?_set_ne (by omega)]; exact get_old _ hG3
            have hp5 : ∃ N', M5 = m ++ N' := by
              obtain ⟨N', hN'⟩ := hp3
              rw [← hM5, hN', List.append_assoc]
              exact pre_set (by omega)
            rw [hM5] at gi5
            (repeat (first | (with_reducible refine AWo.cons ?_) | ((with_reducible refine Step.id ?_); first | ((with_reducible apply Step.gdT); exact rfl; exact rfl; (focus ((simp only [decide_eq_true_eq, decide_eq_false_iff_not, Bool.not_eq_true', Bool.not_eq_false', Bool.not_true, Bool.not_false]; first | assumption | omega)))) | ((with_reducible apply Step.move); exact rfl; exact rfl) | ((with_reducible apply Step.assign); exact rfl; exact rfl) | ((with_reducible apply Step.loadL (n := 4)); exact rfl; (focus (decide +kernel)); (focus (decide +kernel)); exact rfl; (focus (first | exact RdL.new rfl rfl | exact RdL.old _ (by assumption) | exact ry _)); exact rfl; exact rfl) | ((with_reducible apply Step.loadL (n := 8)); exact rfl; (focus (decide +kernel)); (focus (decide +kernel)); exact rfl; (focus (exact RdL.old _ (by assumption))); exact rfl; exact rfl) | ((with_reducible apply Step.ix (s := 4)); exact rfl; (focus (assumption)); exact rfl; (focus (decide +kernel)); exact rfl; (focus (omega))) | ((with_reducible apply Step.lss); exact rfl; exact rfl; exact rfl) | ((with_reducible apply Step.geq); exact rfl; exact rfl; exact rfl) | ((with_reducible apply Step.neq); exact rfl; exact rfl; exact rfl) | ((with_reducible apply Step.pickT); exact rfl; exact rfl; exact rfl; exact rfl; (focus ((simp only [decide_eq_true_eq, decide_eq_false_iff_not, Bool.not_eq_true', Bool.not_eq_false', Bool.not_true, Bool.not_false]; first | assumption | omega)))) | ((with_reducible apply Step.callR fit); exact rfl; exact Try.func66; exact rfl; exact rfl; exact (hcst _)) | ((with_reducible apply Step.alloc 0); exact rfl; exact ze33; exact rfl; (focus (first | (simp only [List.nil_append, List.cons_append, List.set_cons_zero, List.set_cons_succ, iv_set, bv_set, iv_rep, bv_rep]; done) | (simp only [List.nil_append, List.cons_append, List.set_cons_zero, List.set_cons_succ, iv_set, bv_set, iv_rep, bv_rep]; rfl) | rfl))) | ((with_reducible apply Step.storeA (k := 0) (n := 4)); exact rfl; exact rfl; exact rfl; exact rfl; (focus (decide +kernel)); exact rfl; (focus (kernel_rfl)); exact rfl; (focus (first | (simp only [List.nil_append, List.cons_append, List.set_cons_zero, List.set_cons_succ, iv_set, bv_set, iv_rep, bv_rep]; done) | (simp only [List.nil_append, List.cons_append, List.set_cons_zero, List.set_cons_succ, iv_set, bv_set, iv_rep, bv_rep]; rfl) | rfl)))) | (with_reducible refine AWo.nil ?_) | ((with_reducible apply AW.seq)) | ((with_reducible apply Then.n)) | ((fail_if_success (with_reducible refine AW.atL (id := 11) ?_)); ((with_reducible apply AW.regL))) | ((with_reducible apply AW.block)) | ((with_reducible apply AW.skip)) | ((with_reducible apply AW.condT); exact rfl; (focus ((simp only [decide_eq_true_eq, decide_eq_false_iff_not, Bool.not_eq_true', Bool.not_eq_false', Bool.not_true, Bool.not_false]; first | assumption | omega))))))
            refine AW.via [(0, hv), (3, .pointer (some ⟨m.length + 0, 0, none⟩)), (5, .pointer (some ⟨m.length + 2, 0, none⟩)), (25, hv), (26, .int .i64 (n : Nat)), (27, .int .i64 (k : Nat)), (6, .int .i64 (k : Nat)), (7, .pointer (some ⟨M.length + 0, 0, none⟩)), (32, hv), (33, .int .i64 (n : Nat)), (34, .int .i64 (j : Nat))] M5 ?_ ?_
            · (repeat' (first | ((with_reducible refine Step.id ?_); first | ((with_reducible apply Step.move); exact rfl; exact rfl) | ((with_reducible apply Step.load); exact rfl; (focus (decide +kernel)); exact rfl; (focus (first | exact rg0.old _ | exact rv0.old _))) | ((with_reducible apply Step.ix1z); exact rfl; (focus (exact Sl.mk (by omega))); exact rfl; (focus (decide +kernel)); exact rfl; (focus (omega))) | ((with_reducible apply Step.field (k := 1)); exact rfl; (focus (decide +kernel)); exact rfl) | ((with_reducible apply Step.nilp); exact rfl; exact rfl) | ((with_reducible apply Step.buildS 1); exact rfl; exact rfl; exact (fun _ _ => bs27x); exact rfl; (focus (first | (simp only [List.nil_append, List.cons_append, List.set_cons_zero, List.set_cons_succ, iv_set, bv_set, iv_rep, bv_rep]; done) | (simp only [List.nil_append, List.cons_append, List.set_cons_zero, List.set_cons_succ, iv_set, bv_set, iv_rep, bv_rep]; rfl) | rfl)))) | ((with_reducible apply AW.drawT fit (T := (.step 0 (.step 1 (.step 2 (.step 4 (.step 5 (.step 6 (.step 7 (.step 9 (.step 12 (.both (.step 3 (.both (.step 8 (.step 10 (.both (.step 11 (.step 13 (.step 14 (.step 15 (.step 16 .done))))) (.step 13 (.step 11 (.step 14 (.step 15 (.step 16 .done)))))))) (.step 13 (.step 8 (.step 10 (.step 11 (.step 14 (.step 15 (.step 16 .done))))))))) (.both (.step 8 (.step 10 (.both (.step 3 (.both (.step 11 (.step 13 (.step 14 (.step 15 (.step 16 .done))))) (.step 13 (.step 11 (.step 14 (.step 15 (.step 16 .done))))))) (.both (.step 11 (.both (.step 3 (.step 13 (.step 14 (.step 15 (.step 16 .done))))) (.step 13 (.both (.step 3 (.step 14 (.step 15 (.step 16 .done)))) (.step 14 (.step 3 (.step 15 (.step 16 .done)))))))) (.step 13 (.step 11 (.both (.step 3 (.step 14 (.step 15 (.step 16 .done)))) (.step 14 (.step 3 (.step 15 (.step 16 .done))))))))))) (.step 13 (.step 8 (.step 10 (.step 11 (.both (.step 3 (.step 14 (.step 15 (.step 16 .done)))) (.step 14 (.step 3 (.step 15 (.step 16 .done)))))))))))))))))))))); (focus (decide +kernel))) | ((with_reducible apply AWt.step); exact rfl) | refine AWt.both ?_ ?_))
              all_goals rw [hM3']
              all_goals ((with_reducible apply Step.appN); exact rfl; exact rfl; exact el27; exact un27; exact g2; exact rfl; (focus (decide +kernel)); exact rfl)
              all_goals (repeat' (first | ((with_reducible refine Step.id ?_); first | ((with_reducible apply Step.load); exact rfl; (focus (decide +kernel)); exact rfl; (focus (exact rg3.old _))) | ((with_reducible apply Step.ix1z); exact rfl; (focus (exact Sl.mk (by omega))); exact rfl; (focus (decide +kernel)); exact rfl; (focus (omega)))) | ((with_reducible apply AWt.step); exact rfl)))
              all_goals ((with_reducible apply Step.storeW); exact rfl; exact rfl; exact hW4; exact hwl; (focus (decide +kernel)); exact rfl; exact rfl; exact hM5)
              all_goals (repeat' (((with_reducible apply AWt.done))))
              all_goals exact ⟨rfl, rfl, (by repeat (first | exact trivial | (refine And.intro rfl ?_)))⟩
            intro t' ht'
            refine InBlk.n ?_
            refine Then.n ?_
            refine AW.weak ht' ?_
            (repeat (first | (with_reducible refine AWo.cons ?_) | ((with_reducible refine Step.id ?_); first | ((with_reducible apply Step.move); exact rfl; exact rfl) | ((with_reducible apply Step.add); exact rfl; exact rfl; (focus (omega)); exact rfl)) | (with_reducible refine AWo.nil ?_) | ((with_reducible apply Then.n)) | ((with_reducible apply AW.regL))))
            obtain ⟨N', hN'⟩ := hp5
            exact ⟨_, [(0, hv), (3, .pointer (some ⟨m.length + 0, 0, none⟩)), (5, .pointer (some ⟨m.length + 2, 0, none⟩)), (25, hv), (26, .int .i64 (n : Nat)), (27, .int .i64 (k : Nat)), (6, .int .i64 (k : Nat)), (7, .pointer (some ⟨M.length + 0, 0, none⟩)), (32, hv), (33, .int .i64 (n : Nat)), (34, .int .i64 ((j + 1 : Nat) : Int))], by omega, (by repeat (first | exact trivial | (refine And.intro rfl ?_))), j + 1, N', _, rfl, by omega, hN', hA5, rU5, hG5, gi5, rfl⟩
          · obtain ⟨X, hX⟩ : ∃ X, selL (ag u H k) j = X := ⟨_, rfl⟩
            rw [hX] at q1 q5 hv1 rv0
            have hXb : X.length ≤ 32 := by rw [← hX, selL_len]; have : cN (ag u H k) j ≤ j := cN_le _; omega
            obtain ⟨M5, hM5⟩ : ∃ M5, ((M3.set s none) ++ [some ({ cells := iv X ++ [.int .i64 (j : Nat)], kind := .grow, size := 1 } : Blk)]).set (m.length + 1) (some { cells := ws2.set k (.slice (some ⟨M3.length, 0, none⟩) (X.length + 1) (X.length + 1)) }) = M5 := ⟨_, rfl⟩
            have hlo := gi2.lo
            have q5' : M3[s]? = some (some { cells := iv X, kind := .grow, size := 1 }) := by rw [← hM3]; exact get_old _ q5
            have hW4 : ((M3.set s none) ++ [some ({ cells := iv X ++ [.int .i64 (j : Nat)], kind := .grow, size := 1 } : Blk)])[m.length + 1]? = some (some { cells := ws2 }) := get_old _ (by rw [List.getElem?_set_ne (by omega)]; exact gi3.w)
            have gi5 := gi3.addB (s := s) hlt hag hX rfl ⟨q2, by omega⟩
            have hsa : s ≠ M.length + 0 := fun e => by
              rw [e, hA2] at q5
              injection q5 with q5; injection q5 with q5; injection q5 with _ q5; cases q5
            have hA5 : M5[M.length + 0]? = some (some { cells := (H.getD k default).cells }) := by rw [← hM5, List.getElem?_set_ne (by omega)]; exact get_old _ (by rw [List.getElem?_set_ne hsa]; exact hA3)
            have rU5 : RdL M5 (m.length + 0) 0 u.cells := by rw [← hM5]; exact ((rU3.set (by omega)).old _).set (by omega)
            have hG4 : (M3.set s none)[m.length + 2]? = some (some { cells := [.int .i64 (n : Nat), .slice (some ⟨m.length + 1, 0, none⟩) n n] }) := by rw [List.getElem?_set_ne (by omega)]; exact hG3
            have rg4 : Rd (M3.set s none) (m.length + 2) (0 + 1) (.slice (some ⟨m.length + 1, 0, none⟩) n n) := ⟨_, hG4, rfl⟩
            have hG5 : M5[m.length + 2]? = some (some { cells := [.int .i64 (n : Nat), .slice (some ⟨m.length + 1, 0, none⟩) n n] }) := by rw [← hM5, List.getElem?_set_ne (by omega)]; exact get_old _ hG4
            have hp5 : ∃ N', M5 = m ++ N' := by
              obtain ⟨N', hN'⟩ := hp3
              obtain ⟨N'', hN''⟩ := pre_set (m := m) (N := N') (p := s) (x := none) (by omega)
              rw [← hM5, hN', hN'', List.append_assoc]
              exact pre_set (by omega)
            rw [hM5] at gi5
            (repeat (first | (with_reducible refine AWo.cons ?_) | ((with_reducible refine Step.id ?_); first | ((with_reducible apply Step.gdT); exact rfl; exact rfl; (focus ((simp only [decide_eq_true_eq, decide_eq_false_iff_not, Bool.not_eq_true', Bool.not_eq_false', Bool.not_true, Bool.not_false]; first | assumption | omega)))) | ((with_reducible apply Step.move); exact rfl; exact rfl) | ((with_reducible apply Step.assign); exact rfl; exact rfl) | ((with_reducible apply Step.loadL (n := 4)); exact rfl; (focus (decide +kernel)); (focus (decide +kernel)); exact rfl; (focus (first | exact RdL.new rfl rfl | exact RdL.old _ (by assumption) | exact ry _)); exact rfl; exact rfl) | ((with_reducible apply Step.loadL (n := 8)); exact rfl; (focus (decide +kernel)); (focus (decide +kernel)); exact rfl; (focus (exact RdL.old _ (by assumption))); exact rfl; exact rfl) | ((with_reducible apply Step.ix (s := 4)); exact rfl; (focus (assumption)); exact rfl; (focus (decide +kernel)); exact rfl; (focus (omega))) | ((with_reducible apply Step.lss); exact rfl; exact rfl; exact rfl) | ((with_reducible apply Step.geq); exact rfl; exact rfl; exact rfl) | ((with_reducible apply Step.neq); exact rfl; exact rfl; exact rfl) | ((with_reducible apply Step.pickT); exact rfl; exact rfl; exact rfl; exact rfl; (focus ((simp only [decide_eq_true_eq, decide_eq_false_iff_not, Bool.not_eq_true', Bool.not_eq_false', Bool.not_true, Bool.not_false]; first | assumption | omega)))) | ((with_reducible apply Step.callR fit); exact rfl; exact Try.func66; exact rfl; exact rfl; exact (hcst _)) | ((with_reducible apply Step.alloc 0); exact rfl; exact ze33; exact rfl; (focus (first | (simp only [List.nil_append, List.cons_append, List.set_cons_zero, List.set_cons_succ, iv_set, bv_set, iv_rep, bv_rep]; done) | (simp only [List.nil_append, List.cons_append, List.set_cons_zero, List.set_cons_succ, iv_set, bv_set, iv_rep, bv_rep]; rfl) | rfl))) | ((with_reducible apply Step.storeA (k := 0) (n := 4)); exact rfl; exact rfl; exact rfl; exact rfl; (focus (decide +kernel)); exact rfl; (focus (kernel_rfl)); exact rfl; (focus (first | (simp only [List.nil_append, List.cons_append, List.set_cons_zero, List.set_cons_succ, iv_set, bv_set, iv_rep, bv_rep]; done) | (simp only [List.nil_append, List.cons_append, List.set_cons_zero, List.set_cons_succ, iv_set, bv_set, iv_rep, bv_rep]; rfl) | rfl)))) | (with_reducible refine AWo.nil ?_) | ((with_reducible apply AW.seq)) | ((with_reducible apply Then.n)) | ((fail_if_success (with_reducible refine AW.atL (id := 11) ?_)); ((with_reducible apply AW.regL))) | ((with_reducible apply AW.block)) | ((with_reducible apply AW.skip)) | ((with_reducible apply AW.condT); exact rfl; (focus ((simp only [decide_eq_true_eq, decide_eq_false_iff_not, Bool.not_eq_true', Bool.not_eq_false', Bool.not_true, Bool.not_false]; first | assumption | omega))))))
            refine AW.via [(0, hv), (3, .pointer (some ⟨m.length + 0, 0, none⟩)), (5, .pointer (some ⟨m.length + 2, 0, none⟩)), (25, hv), (26, .int .i64 (n : Nat)), (27, .int .i64 (k : Nat)), (6, .int .i64 (k : Nat)), (7, .pointer (some ⟨M.length + 0, 0, none⟩)), (32, hv), (33, .int .i64 (n : Nat)), (34, .int .i64 (j : Nat))] M5 ?_ ?_
            · (repeat' (first | ((with_reducible refine Step.id ?_); first | ((with_reducible apply Step.move); exact rfl; exact rfl) | ((with_reducible apply Step.load); exact rfl; (focus (decide +kernel)); exact rfl; (focus (first | exact rg0.old _ | exact rv0.old _))) | ((with_reducible apply Step.ix1z); exact rfl; (focus (exact Sl.mk (by omega))); exact rfl; (focus (decide +kernel)); exact rfl; (focus (omega))) | ((with_reducible apply Step.field (k := 1)); exact rfl; (focus (decide +kernel)); exact rfl) | ((with_reducible apply Step.nilp); exact rfl; exact rfl) | ((with_reducible apply Step.buildS 1); exact rfl; exact rfl; exact (fun _ _ => bs27x); exact rfl; (focus (first | (simp only [List.nil_append, List.cons_append, List.set_cons_zero, List.set_cons_succ, iv_set, bv_set, iv_rep, bv_rep]; done) | (simp only [List.nil_append, List.cons_append, List.set_cons_zero, List.set_cons_succ, iv_set, bv_set, iv_rep, bv_rep]; rfl) | rfl)))) | ((with_reducible apply AW.drawT fit (T := (.step 0 (.step 1 (.step 2 (.step 4 (.step 5 (.step 6 (.step 7 (.step 9 (.step 12 (.both (.step 3 (.both (.step 8 (.step 10 (.both (.step 11 (.step 13 (.step 14 (.step 15 (.step 16 .done))))) (.step 13 (.step 11 (.step 14 (.step 15 (.step 16 .done)))))))) (.step 13 (.step 8 (.step 10 (.step 11 (.step 14 (.step 15 (.step 16 .done))))))))) (.both (.step 8 (.step 10 (.both (.step 3 (.both (.step 11 (.step 13 (.step 14 (.step 15 (.step 16 .done))))) (.step 13 (.step 11 (.step 14 (.step 15 (.step 16 .done))))))) (.both (.step 11 (.both (.step 3 (.step 13 (.step 14 (.step 15 (.step 16 .done))))) (.step 13 (.both (.step 3 (.step 14 (.step 15 (.step 16 .done)))) (.step 14 (.step 3 (.step 15 (.step 16 .done)))))))) (.step 13 (.step 11 (.both (.step 3 (.step 14 (.step 15 (.step 16 .done)))) (.step 14 (.step 3 (.step 15 (.step 16 .done))))))))))) (.step 13 (.step 8 (.step 10 (.step 11 (.both (.step 3 (.step 14 (.step 15 (.step 16 .done)))) (.step 14 (.step 3 (.step 15 (.step 16 .done)))))))))))))))))))))); (focus (decide +kernel))) | ((with_reducible apply AWt.step); exact rfl) | refine AWt.both ?_ ?_))
              all_goals rw [hM3']
              all_goals ((with_reducible apply Step.appB); exact rfl; exact rfl; exact el27; exact un27; exact q5'; (focus (simp [iv])); exact g2; exact rfl; (focus (omega)); exact rfl)
              all_goals (repeat' (first | ((with_reducible refine Step.id ?_); first | ((with_reducible apply Step.load); exact rfl; (focus (decide +kernel)); exact rfl; (focus (exact rg4.old _))) | ((with_reducible apply Step.ix1z); exact rfl; (focus (exact Sl.mk (by omega))); exact rfl; (focus (decide +kernel)); exact rfl; (focus (omega)))) | ((with_reducible apply AWt.step); exact rfl)))
              all_goals ((with_reducible apply Step.storeW); exact rfl; exact rfl; exact hW4; exact hwl; (focus (decide +kernel)); exact rfl; exact rfl; exact hM5)
              all_goals (repeat' (((with_reducible apply AWt.done))))
              all_goals exact ⟨rfl, rfl, (by repeat (first | exact trivial | (refine And.intro rfl ?_)))⟩
            intro t' ht'
            refine InBlk.n ?_
            refine Then.n ?_
            refine AW.weak ht' ?_
            (repeat (first | (with_reducible refine AWo.cons ?_) | ((with_reducible refine Step.id ?_); first | ((with_reducible apply Step.move); exact rfl; exact rfl) | ((with_reducible apply Step.add); exact rfl; exact rfl; (focus (omega)); exact rfl)) | (with_reducible refine AWo.nil ?_) | ((with_reducible apply Then.n)) | ((with_reducible apply AW.regL))))
            obtain ⟨N', hN'⟩ := hp5
            exact ⟨_, [(0, hv), (3, .pointer (some ⟨m.length + 0, 0, none⟩)), (5, .pointer (some ⟨m.length + 2, 0, none⟩)), (25, hv), (26, .int .i64 (n : Nat)), (27, .int .i64 (k : Nat)), (6, .int .i64 (k : Nat)), (7, .pointer (some ⟨M.length + 0, 0, none⟩)), (32, hv), (33, .int .i64 (n : Nat)), (34, .int .i64 ((j + 1 : Nat) : Int))], by omega, (by repeat (first | exact trivial | (refine And.intro rfl ?_))), j + 1, N', _, rfl, by omega, hN', hA5, rU5, hG5, gi5, rfl⟩
    · obtain rfl : j = n := by omega
      (repeat (first | (with_reducible refine AWo.cons ?_) | ((with_reducible refine Step.id ?_); first | ((with_reducible apply Step.move); exact rfl; exact rfl) | ((with_reducible apply Step.add); exact rfl; exact rfl; (focus (omega)); exact rfl) | ((with_reducible apply Step.lss); exact rfl; exact rfl; exact rfl)) | (with_reducible refine AWo.nil ?_) | ((with_reducible apply AW.seq)) | ((with_reducible apply Then.n)) | ((with_reducible apply AW.regL)) | ((with_reducible apply AW.exit)) | ((with_reducible apply InBlk.n)) | ((with_reducible apply InBlk.hit)) | ((with_reducible apply Then.e)) | ((with_reducible apply AW.condF); exact rfl; (focus ((simp only [decide_eq_true_eq, decide_eq_false_iff_not, Bool.not_eq_true', Bool.not_eq_false', Bool.not_true, Bool.not_false]; first | assumption | omega))))))
      exact ⟨_, [(0, hv), (3, .pointer (some ⟨m.length + 0, 0, none⟩)), (5, .pointer (some ⟨m.length + 2, 0, none⟩)), (25, hv), (26, .int .i64 (j : Nat)), (27, .int .i64 ((k + 1 : Nat) : Int))], by omega, (by repeat (first | exact trivial | (refine And.intro rfl ?_))), k + 1, _, N2, ws2, rfl, by omega, hM2, rU2, hG2, gi2.next hlt, rfl⟩
  · obtain rfl : k = n := by omega
    (repeat (first | (with_reducible refine AWo.cons ?_) | ((with_reducible refine Step.id ?_); first | ((with_reducible apply Step.move); exact rfl; exact rfl) | ((with_reducible apply Step.assign); exact rfl; exact rfl) | ((with_reducible apply Step.lss); exact rfl; exact rfl; exact rfl)) | (with_reducible refine AWo.nil ?_) | ((with_reducible apply AW.seq)) | ((with_reducible apply Then.n)) | ((with_reducible apply AW.regL)) | ((with_reducible apply AW.exit)) | ((with_reducible apply InBlk.hit)) | ((with_reducible apply Then.e)) | ((with_reducible apply AW.condF); exact rfl; (focus ((simp only [decide_eq_true_eq, decide_eq_false_iff_not, Bool.not_eq_true', Bool.not_eq_false', Bool.not_true, Bool.not_false]; first | assumption | omega))))))
    (refine AW.ret ?_; (repeat (first | refine Then.r ?_ | refine InBlk.r ?_)))
    refine ⟨_, rfl, N, hM, m.length + 2, _, m.length + 1, rfl, by omega, ⟨_, hG, rfl⟩, ⟨_, hG, rfl⟩, Sl.mk (Nat.le_refl _), by omega, fun i hi => ?_⟩
    obtain ⟨v, hv1, hrow⟩ := gi.fin i hi
    exact ⟨v, ⟨_, gi.w, hv1⟩, hrow.ints (by omega)⟩
end Go.Proofs.Ytajpngnphbdnnaa.Abs
namespace Go.Proofs.Ytajpngnphbdnnaa.Abs
set_option linter.unusedSimpArgs false
set_option linter.unusedVariables false
open Go.RowKit
open Go.Proofs.Ytajpngnphbdnnaa.Sim
open Go.Proofs
open Hung
theorem g0_ru (u : Ru) : ∀ v ∈ u.cells, g0 v = true := fun v hv => by
  simp only [Ru.cells, Gl.cells, List.cons_append, List.nil_append, List.mem_cons, List.not_mem_nil, or_false] at hv
  rcases hv with rfl | rfl | rfl | rfl | rfl | rfl | rfl | rfl <;> rfl
end Go.Proofs.Ytajpngnphbdnnaa.Abs
namespace Go.Proofs.Ytajpngnphbdnnaa.Abs
set_option linter.unusedSimpArgs false
set_option linter.unusedVariables false
open Go.RowKit
open Go.Proofs.Ytajpngnphbdnnaa.Sim
open Go.Proofs
open Hung
theorem un102 : Try.prog.underlying 102 = some (.pointer 105) := by kernel_rfl
theorem sel_any {g : Nat → Bool} {n j : Nat} (hj : j < n) : (List.range (selL g n).length).any (fun k => decide ((selL g n).getD k 0 = ((j : Nat) : Int))) = g j := by
  rw [Bool.eq_iff_iff, List.any_eq_true]
  constructor
  · rintro ⟨k, hk, he⟩
    rw [List.mem_range, selL, nats_len] at hk
    have he : (selL g n).getD k 0 = ((j : Nat) : Int) := by simpa using he
    rw [selL, nats_get] at he
    have : ((List.range n).filter g).getD k 0 = j := by omega
    have hm := getD_mem' hk
    rw [this, List.mem_filter] at hm
    exact hm.2
  · intro h
    have hm : j ∈ (List.range n).filter g := List.mem_filter.2 ⟨List.mem_range.2 hj, h⟩
    obtain ⟨k, hk, he⟩ := List.getElem_of_mem hm
    refine ⟨k, by rw [List.mem_range, selL, nats_len]; exact hk, ?_⟩
    rw [decide_eq_true_eq, selL, nats_get]
    simp [hk, he]
theorem contains_sel {m : AM} {w : Value} {g : Nat → Bool} {n j : Nat} (h : Ints m w (selL g n)) (hj : j < n) (hn : n ≤ 32) : ACall Try.prog 75 #[w, .int .i64 (j : Nat)] m (Ret (.bool (g j)) m) := by
  have hl : (selL g n).length ≤ n := by rw [selL_len]; exact cN_le n
  have := contains_ok (x := ((j : Nat) : Int)) h (by omega)
  rw [sel_any hj] at this
  exact this
/-- Whether a glove is paired as a matching asks. -/
def vld (adj : Nat → Nat → Bool) (n : Nat) (M : List Int) (i : Nat) : Bool :=
  decide (M.getD i 0 = -1) || (decide (0 ≤ M.getD i 0) && (decide (M.getD i 0 < (n : Nat)) && (decide (M.getD (M.getD i 0).toNat 0 = ((i : Nat) : Int)) && adj i (M.getD i 0).toNat)))
open Classical in
/-- What Pairs answers. -/
noncomputable def prsF (adj : Nat → Nat → Bool) (n : Nat) (M : List Int) : Int × Int :=
  if M.length ≠ n then (0, 3) else if ∀ i, i < n → vld adj n M i = true then (((cN (fun i => decide (0 ≤ M.getD i 0)) n / 2 : Nat) : Int), 0) else (0, 6)
theorem tab_self {M : List Int} {n : Nat} (h : M.length = n) : M = tab (fun i => M.getD i 0) n := by
  subst h
  apply List.ext_getElem?
  intro i
  by_cases hi : i < M.length <;> simp [tab, hi]
theorem prsF_bad {adj : Nat → Nat → Bool} {n : Nat} {M : List Int} {s e : Int} {i : Nat} (hp : prsF adj n M = (s, e)) (hlen : M.length = n) (hi : i < n) (hv : vld adj n M i = false) : s = 0 ∧ e = 6 := by
  unfold prsF at hp
  rw [if_neg (by simpa using hlen), if_neg (fun h => by rw [h i hi] at hv; cases hv)] at hp
  injection hp with h1 h2
  exact ⟨h1.symm, h2.symm⟩
theorem prsF_good {adj : Nat → Nat → Bool} {n : Nat} {M : List Int} {s e : Int} (hp : prsF adj n M = (s, e)) (hlen : M.length = n) (hv : ∀ i, i < n → vld adj n M i = true) : s = ((cN (fun i => decide (0 ≤ M.getD i 0)) n / 2 : Nat) : Int) ∧ e = 0 := by
  unfold prsF at hp
  rw [if_neg (by simpa using hlen), if_pos hv] at hp
  injection hp with h1 h2
  exact ⟨h1.symm, h2.symm⟩
set_option maxRecDepth 100000 in
theorem Pairs_no {m : AM} {hv mv : Value} {u : Ru} {H : List Gl} (hh : Gls m hv H) (h1 : H.length ≤ 100000) (hn : (sB H && uB u) = false) : ACall Try.prog 35 #[hv, u.v, mv] m (Ret (.tuple #[.int .i64 0, .int .i64 2]) m) := by
  have r0 : ∀ T : AM, RdL (m ++ (some { cells := u.cells } :: T)) (m.length + 0) 0 u.cells := fun T => RdL.new rfl rfl
  have hc := fun T => heaped_no (u := u) (hh.old T) h1 hn
  refine ACall.start Try.func35 rfl rfl ?_
  (repeat (first | (with_reducible refine AWo.cons ?_) | ((with_reducible refine Step.id ?_); first | ((with_reducible apply Step.move); exact rfl; exact rfl) | ((with_reducible apply Step.assign); exact rfl; exact rfl) | ((with_reducible apply Step.loadL (n := 8)); exact rfl; (focus (decide +kernel)); (focus (decide +kernel)); exact rfl; (focus (exact RdL.new rfl rfl)); exact rfl; exact rfl) | ((with_reducible apply Step.ptrNil); exact rfl; exact rfl; exact un102; exact rfl) | ((with_reducible apply Step.callR fit); exact rfl; exact Try.func74; exact rfl; exact rfl; exact (hc _)) | ((with_reducible apply Step.box 0); exact rfl; exact rfl; (focus (kernel_rfl)); exact rfl; (focus (first | (simp only [List.nil_append, List.cons_append, List.set_cons_zero, List.set_cons_succ, iv_set, bv_set, iv_rep, bv_rep]; done) | (simp only [List.nil_append, List.cons_append, List.set_cons_zero, List.set_cons_succ, iv_set, bv_set, iv_rep, bv_rep]; rfl) | rfl)))) | (with_reducible refine AWo.nil ?_) | ((with_reducible apply AW.seq)) | ((with_reducible apply Then.n)) | ((with_reducible apply AW.regL)) | ((with_reducible apply AW.block)) | ((with_reducible apply AW.condT); exact rfl; (focus (rfl)))))
  (refine AW.retD (l := [(6, _), (7, _)]) (by repeat (first | exact trivial | (refine And.intro ⟨rfl, by (exact .int _ _)⟩ ?_))) ?_; (repeat (first | refine Then.r ?_ | refine InBlk.r ?_)))
  exact ⟨_, rfl, rfl, rfl⟩
set_option maxHeartbeats 4000000 in
set_option maxRecDepth 100000 in
theorem Pairs_ok {m : AM} {hv mv : Value} {u : Ru} {H : List Gl} {M : List Int} (hh : Gls m hv H) (hH : sB H = true) (hu : uB u = true) (hM : Ints m mv M) (hMl : M.length ≤ 9223372036854775807) {s e : Int} (hp : prsF (ag u H) H.length M = (s, e)) :
    ACall Try.prog 35 #[hv, u.v, mv] m (Ret (.tuple #[.int .i64 s, .int .i64 e]) m) := by
  have h1 : H.length ≤ 32 ∧ H.all gB = true := by simpa [sB] using hH
  have r0 : ∀ T : AM, RdL (m ++ (some { cells := u.cells } :: T)) (m.length + 0) 0 u.cells := fun T => RdL.new rfl rfl
  refine ACall.drop (Ren.tupG [.int .i64 _, .int .i64 _] rfl) ?_
  refine ACall.start Try.func35 rfl rfl ?_
  (repeat (first | (with_reducible refine AWo.cons ?_) | ((with_reducible refine Step.id ?_); first | ((with_reducible apply Step.move); exact rfl; exact rfl) | ((with_reducible apply Step.assign); exact rfl; exact rfl) | ((with_reducible apply Step.loadL (n := 8)); exact rfl; (focus (decide +kernel)); (focus (decide +kernel)); exact rfl; (focus (exact RdL.new rfl rfl)); exact rfl; exact rfl) | ((with_reducible apply Step.box 0); exact rfl; exact rfl; (focus (kernel_rfl)); exact rfl; (focus (first | (simp only [List.nil_append, List.cons_append, List.set_cons_zero, List.set_cons_succ, iv_set, bv_set, iv_rep, bv_rep]; done) | (simp only [List.nil_append, List.cons_append, List.set_cons_zero, List.set_cons_succ, iv_set, bv_set, iv_rep, bv_rep]; rfl) | rfl)))) | (with_reducible refine AWo.nil ?_) | ((with_reducible apply AW.seq)) | ((with_reducible apply Then.n)) | ((with_reducible apply AW.regL))))
  ((with_reducible apply Step.callX fit); exact rfl; exact Try.func74; exact rfl; exact rfl; exact (heaped_ok (hh.old _) hH hu))
  rintro gvv m1 ⟨N0, hN0⟩ hG
  have hMN : ∃ N, m1 = m ++ N := ⟨_, by rw [hN0, List.append_assoc]⟩
  have hM1 : Ints m1 mv M := by rw [hN0]; exact (hM.old _).old _
  clear r0 hN0
  generalize ag u H = adj at *
  generalize H.length = n at *
  obtain ⟨a, wv, b, rfl, t1, t2, t3, t4, t5, t6⟩ := id hG
  obtain ⟨ma, mo, g1, g2, g3⟩ := id hM1
  by_cases hlen : M.length = n
  · subst hlen
    (repeat (first | (with_reducible refine AWo.cons ?_) | ((with_reducible refine Step.id ?_); first | ((with_reducible apply Step.move); exact rfl; exact rfl) | ((with_reducible apply Step.assign); exact rfl; exact rfl) | ((with_reducible apply Step.load); exact rfl; (focus (decide +kernel)); exact rfl; (focus (exact t2.old _))) | ((with_reducible apply Step.field0); exact rfl; (focus (decide +kernel)); exact rfl) | ((with_reducible apply Step.ptrNot); exact rfl; exact rfl; exact un102; exact rfl) | ((with_reducible apply Step.neq); exact rfl; exact rfl; exact rfl) | ((with_reducible apply Step.len); exact rfl; (focus (assumption)); (focus (decide +kernel)); exact rfl) | ((with_reducible apply Step.nilp); exact rfl; exact rfl)) | (with_reducible refine AWo.nil ?_) | ((with_reducible apply AW.seq)) | ((with_reducible apply Then.n)) | ((with_reducible apply AW.regL)) | ((with_reducible apply AW.block)) | ((with_reducible apply InBlk.n)) | ((with_reducible apply AW.skip)) | ((with_reducible apply AW.condF); exact rfl; (focus (first | rfl | (simp; done))))))
    rw [List.append_nil]
    refine AW.rebase ?_
    have wt : Low m1.length (.pointer (some ⟨a, 0, none⟩)) := .ptr t1
    refine AW.loopT (fun rk t L => ∃ k : Nat, rk = M.length - k ∧ k ≤ M.length ∧ (∀ i, i < k → vld adj M.length M i = true) ∧ L = [] ∧ t = [(2, mv), (8, .pointer (some ⟨a, 0, none⟩)), (25, mv), (26, .int .i64 (M.length : Nat)), (27, .int .i64 (k : Nat))])
      ⟨_, _, _, (Or.inl ⟨rfl, (by repeat (first | exact trivial | (refine And.intro rfl ?_)))⟩), 0, rfl, Nat.zero_le _, fun _ h => absurd h (Nat.not_lt_zero _), rfl, rfl⟩ ?_
    rintro rk t L ⟨k, rfl, hk, hv', rfl, rfl⟩
    rcases Nat.lt_or_ge k M.length with hlt | hge
    · have q1 := g3 k hlt
      have hvk : vld adj M.length M k = (decide (M.getD k 0 = -1) || (decide (0 ≤ M.getD k 0) && (decide (M.getD k 0 < ((M.length : Nat) : Int)) && (decide (M.getD (M.getD k 0).toNat 0 = ((k : Nat) : Int)) && adj k (M.getD k 0).toNat)))) := rfl
      have hbad := prsF_bad (i := k) hp rfl hlt
      have hgood : vld adj M.length M k = true → ∀ i, i < k + 1 → vld adj M.length M i = true := fun h i hi => by
        by_cases e : i = k
        · subst e; exact h
        · exact hv' i (by omega)
      obtain ⟨x, hx⟩ : ∃ x, M.getD k 0 = x := ⟨_, rfl⟩
      rw [hx] at q1 hvk
      by_cases e1 : x = -1
      · have hg := hgood (by rw [hvk, decide_eq_true e1]; rfl)
        (repeat (first | (with_reducible refine AWo.cons ?_) | ((with_reducible refine Step.id ?_); first | ((with_reducible apply Step.gdU); exact rfl; exact rfl) | ((with_reducible apply Step.gdF); exact rfl; exact rfl; (focus ((simp only [decide_eq_true_eq, decide_eq_false_iff_not, Bool.not_eq_true', Bool.not_eq_false', Bool.not_true, Bool.not_false]; first | assumption | omega)))) | ((with_reducible apply Step.move); exact rfl; exact rfl) | ((with_reducible apply Step.assign); exact rfl; exact rfl) | ((with_reducible apply Step.load); exact rfl; (focus (decide +kernel)); exact rfl; (focus (exact q1.old _))) | ((with_reducible apply Step.ix1); exact rfl; (focus (assumption)); exact rfl; (focus (decide +kernel)); exact rfl; (focus (omega))) | ((with_reducible apply Step.add); exact rfl; exact rfl; (focus (omega)); exact rfl) | ((with_reducible apply Step.lss); exact rfl; exact rfl; exact rfl) | ((with_reducible apply Step.neq); exact rfl; exact rfl; exact rfl) | ((with_reducible apply Step.pickF); exact rfl; exact rfl; exact rfl; exact rfl; (focus ((simp only [decide_eq_true_eq, decide_eq_false_iff_not, Bool.not_eq_true', Bool.not_eq_false', Bool.not_true, Bool.not_false]; first | assumption | omega))))) | (with_reducible refine AWo.nil ?_) | ((with_reducible apply AW.seq)) | ((with_reducible apply Then.n)) | ((with_reducible apply AW.regL)) | ((with_reducible apply AW.block)) | ((with_reducible apply InBlk.n)) | ((with_reducible apply AW.skip)) | ((with_reducible apply AW.condT); exact rfl; (focus ((simp only [decide_eq_true_eq, decide_eq_false_iff_not, Bool.not_eq_true', Bool.not_eq_false', Bool.not_true, Bool.not_false]; first | assumption | omega)))) | ((with_reducible apply AW.condF); exact rfl; (focus (rfl)))))
        exact ⟨_, _, _, by omega, (Or.inl ⟨rfl, (by repeat (first | exact trivial | (refine And.intro rfl ?_)))⟩), k + 1, rfl, by omega, hg, rfl, rfl⟩
      by_cases e2 : x < 0
      · obtain ⟨rfl, rfl⟩ := hbad (by rw [hvk, decide_eq_false e1, decide_eq_false (p := 0 ≤ x) (by omega)]; rfl)
        (repeat (first | (with_reducible refine AWo.cons ?_) | ((with_reducible refine Step.id ?_); first | ((with_reducible apply Step.gdT); exact rfl; exact rfl; (focus ((simp only [decide_eq_true_eq, decide_eq_false_iff_not, Bool.not_eq_true', Bool.not_eq_false', Bool.not_true, Bool.not_false]; first | assumption | omega)))) | ((with_reducible apply Step.gdF); exact rfl; exact rfl; (focus (first | rfl | (simp only [decide_eq_true_eq, decide_eq_false_iff_not, Bool.not_eq_true', Bool.not_eq_false', Bool.not_true, Bool.not_false]; first | assumption | omega)))) | ((with_reducible apply Step.move); exact rfl; exact rfl) | ((with_reducible apply Step.assign); exact rfl; exact rfl) | ((with_reducible apply Step.load); exact rfl; (focus (decide +kernel)); exact rfl; (focus (exact q1.old _))) | ((with_reducible apply Step.ix1); exact rfl; (focus (assumption)); exact rfl; (focus (decide +kernel)); exact rfl; (focus (omega))) | ((with_reducible apply Step.lss); exact rfl; exact rfl; exact rfl) | ((with_reducible apply Step.neq); exact rfl; exact rfl; exact rfl) | ((with_reducible apply Step.pickT); exact rfl; exact rfl; exact rfl; exact rfl; (focus (first | rfl | (simp only [decide_eq_true_eq, decide_eq_false_iff_not, Bool.not_eq_true', Bool.not_eq_false', Bool.not_true, Bool.not_false]; first | assumption | omega))))) | (with_reducible refine AWo.nil ?_) | ((with_reducible apply AW.seq)) | ((with_reducible apply Then.n)) | ((with_reducible apply AW.regL)) | ((with_reducible apply AW.block)) | ((with_reducible apply AW.skip)) | ((with_reducible apply AW.condT); exact rfl; (focus (first | rfl | (simp only [decide_eq_true_eq, decide_eq_false_iff_not, Bool.not_eq_true', Bool.not_eq_false', Bool.not_true, Bool.not_false]; first | assumption | omega))))))
        (refine AW.ret ?_; (repeat (first | refine Then.r ?_ | refine InBlk.r ?_)))
        obtain ⟨N, rfl⟩ := hMN
        exact ⟨_, rfl, rfl, N, by rw [List.append_nil]⟩
      by_cases e3 : ((M.length : Nat) : Int) ≤ x
      · obtain ⟨rfl, rfl⟩ := hbad (by rw [hvk, decide_eq_false e1, decide_eq_false (p := x < ((M.length : Nat) : Int)) (by omega)]; simp)
        (repeat (first | (with_reducible refine AWo.cons ?_) | ((with_reducible refine Step.id ?_); first | ((with_reducible apply Step.gdT); exact rfl; exact rfl; (focus ((simp only [decide_eq_true_eq, decide_eq_false_iff_not, Bool.not_eq_true', Bool.not_eq_false', Bool.not_true, Bool.not_false]; first | assumption | omega)))) | ((with_reducible apply Step.gdF); exact rfl; exact rfl; (focus (first | rfl | (simp only [decide_eq_true_eq, decide_eq_false_iff_not, Bool.not_eq_true', Bool.not_eq_false', Bool.not_true, Bool.not_false]; first | assumption | omega)))) | ((with_reducible apply Step.move); exact rfl; exact rfl) | ((with_reducible apply Step.assign); exact rfl; exact rfl) | ((with_reducible apply Step.load); exact rfl; (focus (decide +kernel)); exact rfl; (focus (first | exact q1.old _ | exact t2.old _))) | ((with_reducible apply Step.ix1); exact rfl; (focus (assumption)); exact rfl; (focus (decide +kernel)); exact rfl; (focus (omega))) | ((with_reducible apply Step.field0); exact rfl; (focus (decide +kernel)); exact rfl) | ((with_reducible apply Step.lss); exact rfl; exact rfl; exact rfl) | ((with_reducible apply Step.geq); exact rfl; exact rfl; exact rfl) | ((with_reducible apply Step.neq); exact rfl; exact rfl; exact rfl) | ((with_reducible apply Step.nilp); exact rfl; exact rfl) | ((with_reducible apply Step.pickT); exact rfl; exact rfl; exact rfl; exact rfl; (focus (first | rfl | (simp only [decide_eq_true_eq, decide_eq_false_iff_not, Bool.not_eq_true', Bool.not_eq_false', Bool.not_true, Bool.not_false]; first | assumption | omega)))) | ((with_reducible apply Step.pickF); exact rfl; exact rfl; exact rfl; exact rfl; (focus ((simp only [decide_eq_true_eq, decide_eq_false_iff_not, Bool.not_eq_true', Bool.not_eq_false', Bool.not_true, Bool.not_false]; first | assumption | omega))))) | (with_reducible refine AWo.nil ?_) | ((with_reducible apply AW.seq)) | ((with_reducible apply Then.n)) | ((with_reducible apply AW.regL)) | ((with_reducible apply AW.block)) | ((with_reducible apply AW.skip)) | ((with_reducible apply AW.condT); exact rfl; (focus (first | rfl | (simp only [decide_eq_true_eq, decide_eq_false_iff_not, Bool.not_eq_true', Bool.not_eq_false', Bool.not_true, Bool.not_false]; first | assumption | omega))))))
        (refine AW.ret ?_; (repeat (first | refine Then.r ?_ | refine InBlk.r ?_)))
        obtain ⟨N, rfl⟩ := hMN
        exact ⟨_, rfl, rfl, N, by rw [List.append_nil]⟩
      obtain ⟨j, rfl⟩ := Int.eq_ofNat_of_zero_le (show 0 ≤ x by omega)
      have hj : j < M.length := by omega
      rw [Int.toNat_natCast] at hvk
      have q2 := g3 j hj
      obtain ⟨y, hy⟩ : ∃ y, M.getD j 0 = y := ⟨_, rfl⟩
      rw [hy] at q2 hvk
      by_cases e4 : y = ((k : Nat) : Int)
      · obtain ⟨w, k1, k2⟩ := t6 k hlt
        have hcs := fun T => contains_sel (k2.old T) hj h1.1
        cases hadj : adj k j with
        | true =>
          rw [hadj] at hcs
          have hg := hgood (by rw [hvk, decide_eq_true (p := (0 : Int) ≤ (j : Int)) (by omega), decide_eq_true (p := ((j : Nat) : Int) < ((M.length : Nat) : Int)) (by omega), decide_eq_true e4, hadj]; simp)
          (repeat (first | (with_reducible refine AWo.cons ?_) | ((with_reducible refine Step.id ?_); first | ((with_reducible apply Step.gdT); exact rfl; exact rfl; (focus (first | rfl | (simp only [decide_eq_true_eq, decide_eq_false_iff_not, Bool.not_eq_true', Bool.not_eq_false', Bool.not_true, Bool.not_false]; first | assumption | omega)))) | ((with_reducible apply Step.move); exact rfl; exact rfl) | ((with_reducible apply Step.assign); exact rfl; exact rfl) | ((with_reducible apply Step.load); exact rfl; (focus (decide +kernel)); exact rfl; (focus (first | exact q1.old _ | exact t2.old _ | exact q2.old _ | exact t3.old _ | exact k1.old _))) | ((with_reducible apply Step.ix1z); exact rfl; (focus (assumption)); exact rfl; (focus (decide +kernel)); exact rfl; (focus (omega))) | ((with_reducible apply Step.ix1); exact rfl; (focus (assumption)); exact rfl; (focus (decide +kernel)); exact rfl; (focus (omega))) | ((with_reducible apply Step.field0); exact rfl; (focus (decide +kernel)); exact rfl) | ((with_reducible apply Step.field (k := 1)); exact rfl; (focus (decide +kernel)); exact rfl) | ((with_reducible apply Step.add); exact rfl; exact rfl; (focus (omega)); exact rfl) | ((with_reducible apply Step.lss); exact rfl; exact rfl; exact rfl) | ((with_reducible apply Step.geq); exact rfl; exact rfl; exact rfl) | ((with_reducible apply Step.neq); exact rfl; exact rfl; exact rfl) | ((with_reducible apply Step.not); exact rfl; exact rfl) | ((with_reducible apply Step.nilp); exact rfl; exact rfl) | ((with_reducible apply Step.pickT); exact rfl; exact rfl; exact rfl; exact rfl; (focus (rfl))) | ((with_reducible apply Step.pickF); exact rfl; exact rfl; exact rfl; exact rfl; (focus (first | rfl | (simp only [decide_eq_true_eq, decide_eq_false_iff_not, Bool.not_eq_true', Bool.not_eq_false', Bool.not_true, Bool.not_false]; first | assumption | omega)))) | ((with_reducible apply Step.callR fit); exact rfl; exact Try.func75; exact rfl; exact rfl; exact (hcs _))) | (with_reducible refine AWo.nil ?_) | ((with_reducible apply AW.seq)) | ((with_reducible apply Then.n)) | ((with_reducible apply AW.regL)) | ((with_reducible apply AW.block)) | ((with_reducible apply InBlk.n)) | ((with_reducible apply AW.skip)) | ((with_reducible apply AW.condT); exact rfl; (focus ((simp only [decide_eq_true_eq, decide_eq_false_iff_not, Bool.not_eq_true', Bool.not_eq_false', Bool.not_true, Bool.not_false]; first | assumption | omega)))) | ((with_reducible apply AW.condF); exact rfl; (focus (rfl)))))
          exact ⟨_, _, _, by omega, (Or.inl ⟨rfl, (by repeat (first | exact trivial | (refine And.intro rfl ?_)))⟩), k + 1, rfl, by omega, hg, rfl, rfl⟩
        | false =>
          rw [hadj] at hcs
          obtain ⟨rfl, rfl⟩ := hbad (by rw [hvk, decide_eq_false e1, hadj]; simp)
          (repeat (first | (with_reducible refine AWo.cons ?_) | ((with_reducible refine Step.id ?_); first | ((with_reducible apply Step.gdT); exact rfl; exact rfl; (focus (first | rfl | (simp only [decide_eq_true_eq, decide_eq_false_iff_not, Bool.not_eq_true', Bool.not_eq_false', Bool.not_true, Bool.not_false]; first | assumption | omega)))) | ((with_reducible apply Step.move); exact rfl; exact rfl) | ((with_reducible apply Step.assign); exact rfl; exact rfl) | ((with_reducible apply Step.load); exact rfl; (focus (decide +kernel)); exact rfl; (focus (first | exact q1.old _ | exact t2.old _ | exact q2.old _ | exact t3.old _ | exact k1.old _))) | ((with_reducible apply Step.ix1z); exact rfl; (focus (assumption)); exact rfl; (focus (decide +kernel)); exact rfl; (focus (omega))) | ((with_reducible apply Step.ix1); exact rfl; (focus (assumption)); exact rfl; (focus (decide +kernel)); exact rfl; (focus (omega))) | ((with_reducible apply Step.field0); exact rfl; (focus (decide +kernel)); exact rfl) | ((with_reducible apply Step.field (k := 1)); exact rfl; (focus (decide +kernel)); exact rfl) | ((with_reducible apply Step.lss); exact rfl; exact rfl; exact rfl) | ((with_reducible apply Step.geq); exact rfl; exact rfl; exact rfl) | ((with_reducible apply Step.neq); exact rfl; exact rfl; exact rfl) | ((with_reducible apply Step.not); exact rfl; exact rfl) | ((with_reducible apply Step.nilp); exact rfl; exact rfl) | ((with_reducible apply Step.pickT); exact rfl; exact rfl; exact rfl; exact rfl; (focus (rfl))) | ((with_reducible apply Step.pickF); exact rfl; exact rfl; exact rfl; exact rfl; (focus (first | rfl | (simp only [decide_eq_true_eq, decide_eq_false_iff_not, Bool.not_eq_true', Bool.not_eq_false', Bool.not_true, Bool.not_false]; first | assumption | omega)))) | ((with_reducible apply Step.callR fit); exact rfl; exact Try.func75; exact rfl; exact rfl; exact (hcs _))) | (with_reducible refine AWo.nil ?_) | ((with_reducible apply AW.seq)) | ((with_reducible apply Then.n)) | ((with_reducible apply AW.regL)) | ((with_reducible apply AW.block)) | ((with_reducible apply AW.skip)) | ((with_reducible apply AW.condT); exact rfl; (focus (first | rfl | (simp only [decide_eq_true_eq, decide_eq_false_iff_not, Bool.not_eq_true', Bool.not_eq_false', Bool.not_true, Bool.not_false]; first | assumption | omega))))))
          (refine AW.ret ?_; (repeat (first | refine Then.r ?_ | refine InBlk.r ?_)))
          obtain ⟨N, rfl⟩ := hMN
          exact ⟨_, rfl, rfl, N, by rw [List.append_nil]⟩
      · obtain ⟨rfl, rfl⟩ := hbad (by rw [hvk, decide_eq_false e1, decide_eq_false e4]; simp)
        (repeat (first | (with_reducible refine AWo.cons ?_) | ((with_reducible refine Step.id ?_); first | ((with_reducible apply Step.gdT); exact rfl; exact rfl; (focus (first | rfl | (simp only [decide_eq_true_eq, decide_eq_false_iff_not, Bool.not_eq_true', Bool.not_eq_false', Bool.not_true, Bool.not_false]; first | assumption | omega)))) | ((with_reducible apply Step.gdF); exact rfl; exact rfl; (focus ((simp only [decide_eq_true_eq, decide_eq_false_iff_not, Bool.not_eq_true', Bool.not_eq_false', Bool.not_true, Bool.not_false]; first | assumption | omega)))) | ((with_reducible apply Step.move); exact rfl; exact rfl) | ((with_reducible apply Step.assign); exact rfl; exact rfl) | ((with_reducible apply Step.load); exact rfl; (focus (decide +kernel)); exact rfl; (focus (first | exact q1.old _ | exact t2.old _ | exact q2.old _))) | ((with_reducible apply Step.ix1); exact rfl; (focus (assumption)); exact rfl; (focus (decide +kernel)); exact rfl; (focus (omega))) | ((with_reducible apply Step.field0); exact rfl; (focus (decide +kernel)); exact rfl) | ((with_reducible apply Step.lss); exact rfl; exact rfl; exact rfl) | ((with_reducible apply Step.geq); exact rfl; exact rfl; exact rfl) | ((with_reducible apply Step.neq); exact rfl; exact rfl; exact rfl) | ((with_reducible apply Step.nilp); exact rfl; exact rfl) | ((with_reducible apply Step.pickT); exact rfl; exact rfl; exact rfl; exact rfl; (focus (first | rfl | (simp only [decide_eq_true_eq, decide_eq_false_iff_not, Bool.not_eq_true', Bool.not_eq_false', Bool.not_true, Bool.not_false]; first | assumption | omega)))) | ((with_reducible apply Step.pickF); exact rfl; exact rfl; exact rfl; exact rfl; (focus (first | rfl | (simp only [decide_eq_true_eq, decide_eq_false_iff_not, Bool.not_eq_true', Bool.not_eq_false', Bool.not_true, Bool.not_false]; first | assumption | omega))))) | (with_reducible refine AWo.nil ?_) | ((with_reducible apply AW.seq)) | ((with_reducible apply Then.n)) | ((with_reducible apply AW.regL)) | ((with_reducible apply AW.block)) | ((with_reducible apply AW.skip)) | ((with_reducible apply AW.condT); exact rfl; (focus (first | rfl | (simp only [decide_eq_true_eq, decide_eq_false_iff_not, Bool.not_eq_true', Bool.not_eq_false', Bool.not_true, Bool.not_false]; first | assumption | omega))))))
        (refine AW.ret ?_; (repeat (first | refine Then.r ?_ | refine InBlk.r ?_)))
        obtain ⟨N, rfl⟩ := hMN
        exact ⟨_, rfl, rfl, N, by rw [List.append_nil]⟩
    · obtain rfl : k = M.length := by omega
      obtain ⟨rfl, rfl⟩ := prsF_good hp rfl hv'
      have hsz : ∀ T, ACall Try.prog 69 #[mv] (m1 ++ T) (Ret (.int .i64 (cN (fun j => decide (0 ≤ M.getD j 0)) M.length : Nat)) (m1 ++ T)) := fun T => size_ok (by rw [← tab_self rfl]; exact hM1.old T) (by omega)
      have hc : cN (fun j => decide (0 ≤ M.getD j 0)) M.length ≤ M.length := cN_le _
      (repeat (first | (with_reducible refine AWo.cons ?_) | ((with_reducible refine Step.id ?_); first | ((with_reducible apply Step.move); exact rfl; exact rfl) | ((with_reducible apply Step.assign); exact rfl; exact rfl) | ((with_reducible apply Step.lss); exact rfl; exact rfl; exact rfl) | ((with_reducible apply Step.quo); exact rfl; exact rfl; (focus (omega)); (focus (omega)); exact rfl) | ((with_reducible apply Step.callR fit); exact rfl; exact Try.func69; exact rfl; exact rfl; exact (hsz _))) | (with_reducible refine AWo.nil ?_) | ((with_reducible apply AW.seq)) | ((with_reducible apply Then.n)) | ((with_reducible apply AW.regL)) | ((with_reducible apply AW.exit)) | ((with_reducible apply InBlk.hit)) | ((with_reducible apply Then.e)) | ((with_reducible apply AW.condF); exact rfl; (focus ((simp only [decide_eq_true_eq, decide_eq_false_iff_not, Bool.not_eq_true', Bool.not_eq_false', Bool.not_true, Bool.not_false]; first | assumption | omega))))))
      (refine AW.ret ?_; (repeat (first | refine Then.r ?_ | refine InBlk.r ?_)))
      obtain ⟨N, rfl⟩ := hMN
      exact ⟨_, rfl, by congr 2, N, by rw [List.append_nil]⟩
  · have hp' : s = 0 ∧ e = 3 := by
      unfold prsF at hp
      rw [if_pos hlen] at hp
      injection hp with h1 h2
      exact ⟨h1.symm, h2.symm⟩
    obtain ⟨rfl, rfl⟩ := hp'
    (repeat (first | (with_reducible refine AWo.cons ?_) | ((with_reducible refine Step.id ?_); first | ((with_reducible apply Step.move); exact rfl; exact rfl) | ((with_reducible apply Step.assign); exact rfl; exact rfl) | ((with_reducible apply Step.load); exact rfl; (focus (decide +kernel)); exact rfl; (focus (exact t2.old _))) | ((with_reducible apply Step.field0); exact rfl; (focus (decide +kernel)); exact rfl) | ((with_reducible apply Step.ptrNot); exact rfl; exact rfl; exact un102; exact rfl) | ((with_reducible apply Step.neq); exact rfl; exact rfl; exact rfl) | ((with_reducible apply Step.len); exact rfl; (focus (assumption)); (focus (decide +kernel)); exact rfl) | ((with_reducible apply Step.nilp); exact rfl; exact rfl)) | (with_reducible refine AWo.nil ?_) | ((with_reducible apply AW.seq)) | ((with_reducible apply Then.n)) | ((with_reducible apply AW.regL)) | ((with_reducible apply AW.block)) | ((with_reducible apply AW.condT); exact rfl; (focus ((simp only [decide_eq_true_eq, decide_eq_false_iff_not, Bool.not_eq_true', Bool.not_eq_false', Bool.not_true, Bool.not_false]; first | assumption | omega)))) | ((with_reducible apply AW.condF); exact rfl; (focus (rfl)))))
    (refine AW.ret ?_; (repeat (first | refine Then.r ?_ | refine InBlk.r ?_)))
    obtain ⟨N, rfl⟩ := hMN
    exact ⟨_, rfl, rfl, N, by rw [List.append_nil]⟩
theorem gls_nil {m : AM} (h : 0 < m.length) : Gls m (.slice none 0 0) [] := ⟨0, 0, Sl.nil _ _, h, fun k hk => by simp at hk⟩
theorem heap34 (u : Ru) (H : List Gl) : (sB (H.take 34) && uB u) = (sB H && uB u) := by
  rw [(take34 H).1]
end Go.Proofs.Ytajpngnphbdnnaa.Abs
namespace Go.Proofs.Ytajpngnphbdnnaa.Hung
set_option linter.unusedSimpArgs false
set_option linter.unusedVariables false
theorem even_inv (f : Nat → Nat) : ∀ (n : Nat) (C : List Nat), C.length ≤ n → C.Nodup → (∀ x ∈ C, f x ∈ C ∧ f (f x) = x ∧ f x ≠ x) → C.length % 2 = 0
  | _, [], _, _, _ => rfl
  | 0, x :: C, h, _, _ => by simp at h
  | n + 1, x :: C, hn, hd, hf => by
    obtain ⟨h1, h2, h3⟩ := hf x (by simp)
    have hfx : f x ∈ C := (List.mem_cons.1 h1).resolve_left h3
    obtain ⟨hx, hd'⟩ := List.nodup_cons.1 hd
    have hl := List.length_erase_of_mem hfx
    have hpos : 0 < C.length := List.length_pos_of_mem hfx
    have ih := even_inv f n (C.erase (f x)) (by simp only [List.length_cons] at hn; omega) (hd'.erase _) fun y hy => by
      rw [hd'.mem_erase_iff] at hy
      obtain ⟨y1, y2⟩ := hy
      obtain ⟨g1, g2, g3⟩ := hf y (by simp [y2])
      refine ⟨?_, g2, g3⟩
      rw [hd'.mem_erase_iff]
      refine ⟨fun e => ?_, (List.mem_cons.1 g1).resolve_left fun e => ?_⟩
      · have : y = x := by rw [← g2, e, h2]
        subst this; exact hx y2
      · exact y1 (by rw [← e, g2])
    simp only [List.length_cons]
    omega
abbrev BS := List Nat × (Nat → Bool)
/-- What is new beside a glove. -/
def scn (adj : Nat → Nat → Bool) (x : Nat) : List Nat → BS → BS
  | [], s => s
  | j :: js, s => scn adj x js (if s.2 j = false ∧ adj x j = true then (s.1 ++ [j], up s.2 j true) else s)
/-- A class, from its k-th glove on. -/
def bfs (adj : Nat → Nat → Bool) (n : Nat) : Nat → Nat → BS → BS
  | 0, _, s => s
  | f + 1, k, s => if k < s.1.length then bfs adj n f (k + 1) (scn adj (s.1.getD k 0) (List.range n) s) else s
/-- The odd classes among the first k gloves, and what is seen then. -/
def oddF (adj : Nat → Nat → Bool) (n : Nat) (b : Nat → Bool) : Nat → Nat × (Nat → Bool)
  | 0 => (0, b)
  | k + 1 => if (oddF adj n b k).2 k = true then oddF adj n b k else
    let s := bfs adj n n 0 ([k], up (oddF adj n b k).2 k true)
    ((oddF adj n b k).1 + s.1.length % 2, s.2)
theorem scn_filter (adj : Nat → Nat → Bool) (x : Nat) : ∀ (js : List Nat) (s : BS), scn adj x (js.filter (adj x)) s = scn adj x js s
  | [], s => rfl
  | j :: js, s => by
    rw [List.filter_cons]
    cases h : adj x j with
    | true => rw [if_pos rfl]; simp only [scn]; rw [scn_filter adj x js, h]
    | false => rw [if_neg (by simp)]; simp only [scn]; rw [scn_filter adj x js, h, if_neg (by simp)]
theorem scn_mono {adj : Nat → Nat → Bool} {x : Nat} : ∀ {js : List Nat} {s : BS} {y : Nat}, s.2 y = true → (scn adj x js s).2 y = true
  | [], s, y, h => h
  | j :: js, s, y, h => by
    simp only [scn]
    refine scn_mono ?_
    split
    · simp only; unfold up; split <;> first | rfl | exact h
    · exact h
structure BInv (n : Nat) (S : Nat → Bool) (s : BS) : Prop where
  nd : s.1.Nodup
  lt : ∀ x ∈ s.1, x < n
  sn : ∀ y, s.2 y = true ↔ (S y = true ∨ y ∈ s.1)
  ds : ∀ y ∈ s.1, S y = false
theorem scn_inv {adj : Nat → Nat → Bool} {n x : Nat} {S : Nat → Bool} : ∀ {js : List Nat} {s : BS}, (∀ j ∈ js, j < n) → BInv n S s → BInv n S (scn adj x js s) ∧ (∃ T, (scn adj x js s).1 = s.1 ++ T) ∧ ∀ j ∈ js, adj x j = true → (scn adj x js s).2 j = true
  | [], s, _, h => ⟨h, ⟨[], by simp [scn]⟩, fun _ h => by simp at h⟩
  | j :: js, s, hjs, h => by
    simp only [scn]
    split
    · rename_i hc
      obtain ⟨h1, h2⟩ := hc
      have hj : j ∉ s.1 := fun hm => by have := (h.sn j).2 (.inr hm); rw [h1] at this; cases this
      have hS : S j = false := by
        cases e : S j with
        | false => rfl
        | true => have := (h.sn j).2 (.inl e); rw [h1] at this; cases this
      have h' : BInv n S (s.1 ++ [j], up s.2 j true) := by
        refine ⟨?_, fun y hy => ?_, fun y => ?_, fun y hy => ?_⟩
        · rw [List.nodup_append]
          exact ⟨h.nd, by simp, fun a ha b hb e => by rw [List.mem_singleton] at hb; subst hb; subst e; exact hj ha⟩
        · rcases List.mem_append.1 hy with hy | hy
          · exact h.lt y hy
          · rw [List.mem_singleton] at hy; subst hy; exact hjs y (by simp)
        · by_cases e : y = j
          · subst e; simp [up_same]
          · show up s.2 j true y = true ↔ S y = true ∨ y ∈ s.1 ++ [j]
            rw [up_ne _ _ e, h.sn y]; simp [e]
        · rcases List.mem_append.1 hy with hy | hy
          · exact h.ds y hy
          · rw [List.mem_singleton] at hy; subst hy; exact hS
      obtain ⟨a1, ⟨T, a2⟩, a3⟩ := scn_inv (adj := adj) (x := x) (js := js) (fun y hy => hjs y (by simp [hy])) h'
      refine ⟨a1, ⟨j :: T, by rw [a2]; simp⟩, fun y hy hadj => ?_⟩
      rcases List.mem_cons.1 hy with rfl | hy
      · exact scn_mono (up_same _ _ _)
      · exact a3 y hy hadj
    · rename_i hc
      obtain ⟨a1, a2, a3⟩ := scn_inv (adj := adj) (x := x) (js := js) (fun y hy => hjs y (by simp [hy])) h
      refine ⟨a1, a2, fun y hy hadj => ?_⟩
      rcases List.mem_cons.1 hy with rfl | hy
      · refine scn_mono ?_
        cases e : s.2 y with
        | true => rfl
        | false => exact absurd ⟨e, hadj⟩ hc
      · exact a3 y hy hadj
theorem BInv.len {n : Nat} {S : Nat → Bool} {s : BS} (h : BInv n S s) : s.1.length ≤ n := by
  have := nodup_le h.nd (k := List.range n) fun x hx => List.mem_range.2 (h.lt x hx)
  simpa using this
theorem bfs_inv {adj : Nat → Nat → Bool} {n : Nat} {S : Nat → Bool} : ∀ {f k : Nat} {s : BS}, n ≤ f + k → BInv n S s → (∀ i, i < k → i < s.1.length → ∀ j, j < n → adj (s.1.getD i 0) j = true → s.2 j = true) →
    BInv n S (bfs adj n f k s) ∧ (∃ T, (bfs adj n f k s).1 = s.1 ++ T) ∧ ∀ x ∈ (bfs adj n f k s).1, ∀ j, j < n → adj x j = true → (bfs adj n f k s).2 j = true
  | 0, k, s, hf, h, hc => ⟨h, ⟨[], by simp [bfs]⟩, fun x hx j hj hadj => by
      have hl := h.len
      simp only [bfs] at hx ⊢
      obtain ⟨i, hi, rfl⟩ := List.getElem_of_mem hx
      have := hc i (by omega) hi j hj
      rw [List.getD_eq_getElem?_getD, List.getElem?_eq_getElem hi] at this
      exact this hadj⟩
  | f + 1, k, s, hf, h, hc => by
    simp only [bfs]
    split
    · rename_i hk
      obtain ⟨a1, ⟨T, a2⟩, a3⟩ := scn_inv (adj := adj) (x := s.1.getD k 0) (js := List.range n) (fun j hj => List.mem_range.1 hj) h
      obtain ⟨b1, ⟨T', b2⟩, b3⟩ := bfs_inv (adj := adj) (f := f) (k := k + 1) (by omega) a1 (fun i hi hil j hj hadj => by
        have e : (scn adj (s.1.getD k 0) (List.range n) s).1.getD i 0 = s.1.getD i 0 := by
          rw [a2, List.getD_eq_getElem?_getD, List.getElem?_append_left (by omega), ← List.getD_eq_getElem?_getD]
        rw [e] at hadj
        by_cases e : i = k
        · subst e; exact a3 j (List.mem_range.2 hj) hadj
        · exact scn_mono (hc i (by omega) (by omega) j hj hadj))
      exact ⟨b1, ⟨T ++ T', by rw [b2, a2, List.append_assoc]⟩, b3⟩
    · rename_i hk
      refine ⟨h, ⟨[], by simp⟩, fun x hx j hj hadj => ?_⟩
      obtain ⟨i, hi, rfl⟩ := List.getElem_of_mem hx
      have := hc i (by omega) hi j hj
      rw [List.getD_eq_getElem?_getD, List.getElem?_eq_getElem hi] at this
      exact this hadj
/-- A matching. -/
structure Mtg (adj : Nat → Nat → Bool) (n : Nat) (M : Nat → Int) : Prop where
  v : ∀ i, i < n → M i = -1 ∨ ∃ j : Nat, M i = (j : Nat) ∧ j < n ∧ M j = (i : Nat) ∧ adj i j = true
/-- The gloves that pay for an odd class. -/
def gd (b : Nat → Bool) (M : Nat → Int) (x : Nat) : Bool := !b x && (decide (M x < 0) || b (M x).toNat)
theorem oddF_inv {adj : Nat → Nat → Bool} {n : Nat} {b : Nat → Bool} {M : Nat → Int} (hs : ∀ i j, adj i j = adj j i) (hi : ∀ i, adj i i = false) (hM : Mtg adj n M) (hb : ∀ x, b x = true → x < n) : ∀ {k : Nat}, k ≤ n →
    (∀ x, b x = true → (oddF adj n b k).2 x = true) ∧ (∀ x, (oddF adj n b k).2 x = true → x < n ∧ (b x = false → ∀ j, j < n → adj x j = true → (oddF adj n b k).2 j = true)) ∧ (oddF adj n b k).1 ≤ cN (fun x => (oddF adj n b k).2 x && gd b M x) n
  | 0, _ => ⟨fun _ h => h, fun x h => ⟨hb x h, fun h' => by rw [show (oddF adj n b 0).2 = b from rfl] at h; rw [h] at h'; cases h'⟩, Nat.zero_le _⟩
  | k + 1, hk => by
    obtain ⟨i1, i2, i3⟩ := oddF_inv hs hi hM hb (k := k) (by omega)
    simp only [oddF]
    split
    · exact ⟨i1, i2, i3⟩
    · rename_i hsk
      have hsk : (oddF adj n b k).2 k = false := by simpa using hsk
      generalize hd : (oddF adj n b k).1 = d at *
      generalize hS : (oddF adj n b k).2 = S at *
      have h0 : BInv n S ([k], up S k true) := ⟨by simp, fun x hx => by rw [List.mem_singleton] at hx; omega, fun y => by
        by_cases e : y = k
        · subst e; simp [up_same]
        · show up S k true y = true ↔ S y = true ∨ y ∈ [k]
          rw [up_ne _ _ e]; simp [e], fun y hy => by rw [List.mem_singleton] at hy; subst hy; exact hsk⟩
      obtain ⟨b1, _, b3⟩ := bfs_inv (adj := adj) (f := n) (k := 0) (by omega) h0 (fun i hi => by omega)
      generalize bfs adj n n 0 ([k], up S k true) = s at *
      refine ⟨fun x hx => (b1.sn x).2 (.inl (i1 x hx)), fun x hx => ?_, ?_⟩
      · rcases (b1.sn x).1 hx with h | h
        · obtain ⟨c1, c2⟩ := i2 x h
          exact ⟨c1, fun hbx j hj hadj => (b1.sn j).2 (.inl (c2 hbx j hj hadj))⟩
        · exact ⟨b1.lt x h, fun _ j hj hadj => b3 x h j hj hadj⟩
      · have hmono : cN (fun x => S x && gd b M x) n ≤ cN (fun x => s.2 x && gd b M x) n := cN_mono fun x _ hx => by
          simp only [Bool.and_eq_true] at hx ⊢
          exact ⟨(b1.sn x).2 (.inl hx.1), hx.2⟩
        show d + s.1.length % 2 ≤ cN (fun x => s.2 x && gd b M x) n
        by_cases hev : s.1.length % 2 = 0
        · omega
        · have hex : ∃ x ∈ s.1, gd b M x = true := by
            apply Classical.byContradiction
            intro hno
            apply hev
            refine even_inv (fun x => (M x).toNat) s.1.length s.1 (Nat.le_refl _) b1.nd fun x hx => ?_
            have hgx : gd b M x = false := by
              cases e : gd b M x with
              | false => rfl
              | true => exact absurd ⟨x, hx, e⟩ hno
            have hbx : b x = false := by
              cases e : b x with
              | false => rfl
              | true => have := b1.ds x hx; rw [i1 x e] at this; cases this
            simp only [gd, hbx, Bool.not_false, Bool.true_and, Bool.or_eq_false_iff, decide_eq_false_iff_not] at hgx
            rcases hM.v x (b1.lt x hx) with h | ⟨j, j1, j2, j3, j4⟩
            · omega
            · rw [j1] at hgx ⊢
              simp only [Int.toNat_natCast] at hgx ⊢
              refine ⟨?_, by rw [j3]; simp, fun e => by subst e; rw [hi] at j4; cases j4⟩
              rcases (b1.sn j).1 (b3 x hx j j2 j4) with h | h
              · have := (i2 j h).2 hgx.2 x (b1.lt x hx) (by rw [hs]; exact j4)
                rw [b1.ds x hx] at this; cases this
              · exact h
          obtain ⟨x, hx, hg⟩ := hex
          have h1 : cN (fun y => S y && gd b M y) n + 1 ≤ cN (fun y => s.2 y && gd b M y) n := by
            have hSx := b1.ds x hx
            have e1 : cN (up (fun y => S y && gd b M y) x true) n = cN (fun y => S y && gd b M y) n + 1 :=
              cN_one (j0 := x) (by simp [hSx]) (up_same _ _ _) (fun j hj => up_ne _ _ hj) (b1.lt x hx)
            rw [← e1]
            refine cN_mono fun y _ hy => ?_
            by_cases e : y = x
            · subst e; simp only [Bool.and_eq_true]; exact ⟨(b1.sn y).2 (.inr hx), hg⟩
            · rw [up_ne _ _ e] at hy
              simp only [Bool.and_eq_true] at hy ⊢
              exact ⟨(b1.sn y).2 (.inl hy.1), hy.2⟩
          omega
theorem cN_sum (p q : Nat → Bool) : ∀ n, cN p n = cN (fun j => p j && q j) n + cN (fun j => p j && !q j) n
  | 0 => rfl
  | n + 1 => by
    have h := cN_sum p q n
    have e : ∀ a b : Bool, (if a = true then 1 else 0 : Nat) = (if (a && b) = true then 1 else 0) + (if (a && !b) = true then 1 else 0) := by decide
    have := e (p n) (q n)
    simp only [cN]; omega
theorem cN_true : ∀ n, cN (fun _ => true) n = n
  | 0 => rfl
  | n + 1 => by simp only [cN]; rw [cN_true n]; simp
/-- A matching has no more pairs than the odd classes allow. -/
theorem odd_bound {adj : Nat → Nat → Bool} {n : Nat} {b : Nat → Bool} {M : Nat → Int} (hs : ∀ i j, adj i j = adj j i) (hi : ∀ i, adj i i = false) (hM : Mtg adj n M) (hb : ∀ x, b x = true → x < n) : cN (fun i => decide (0 ≤ M i)) n + (oddF adj n b n).1 ≤ n + cN b n := by
  obtain ⟨_, _, h⟩ := oddF_inv hs hi hM hb (Nat.le_refl n)
  have h1 : cN (fun x => (oddF adj n b n).2 x && gd b M x) n ≤ cN (gd b M) n := cN_mono fun x _ hx => by
    simp only [Bool.and_eq_true] at hx; exact hx.2
  have h2 := cN_sum (gd b M) (fun i => decide (0 ≤ M i)) n
  have h3 : cN (fun i => gd b M i && decide (0 ≤ M i)) n ≤ cN b n := by
    refine cN_inj (fun i => (M i).toNat) (fun j hj hp => ?_) (fun j j' hj hj' hp hp' he => ?_)
    · simp only [Bool.and_eq_true, decide_eq_true_eq, gd, Bool.or_eq_true] at hp
      obtain ⟨⟨_, h1⟩, h2⟩ := hp
      rcases h1 with h1 | h1
      · omega
      · exact ⟨hb _ h1, h1⟩
    · simp only [Bool.and_eq_true, decide_eq_true_eq] at hp hp'
      have h0 := hp.2
      have h0' := hp'.2
      rcases hM.v j hj with h | ⟨x, x1, x2, x3, _⟩
      · omega
      · rcases hM.v j' hj' with h | ⟨y, y1, y2, y3, _⟩
        · omega
        · have : x = y := by omega
          subst this; omega
  have h4 : cN (fun i => gd b M i && !decide (0 ≤ M i)) n ≤ cN (fun i => !decide (0 ≤ M i)) n := cN_mono fun x _ hx => by
    simp only [Bool.and_eq_true] at hx; exact hx.2
  have h5 : cN (fun i => decide (0 ≤ M i)) n + cN (fun i => !decide (0 ≤ M i)) n = n := by
    have := cN_sum (fun _ => true) (fun i => decide (0 ≤ M i)) n
    simp only [Bool.true_and] at this
    rw [cN_true] at this
    omega
  omega
end Go.Proofs.Ytajpngnphbdnnaa.Hung
namespace Go.Proofs.Ytajpngnphbdnnaa.Abs
set_option linter.unusedSimpArgs false
set_option linter.unusedVariables false
open Go.RowKit
open Go.Proofs.Ytajpngnphbdnnaa.Sim
open Go.Proofs
open Hung
/-- Which gloves are among the first k of a list. -/
def bst (B : List Int) (k x : Nat) : Bool := decide (((x : Nat) : Int) ∈ B.take k)
theorem bst_zero (B : List Int) : bst B 0 = fun _ => false := by funext x; simp [bst]
theorem bst_up {B : List Int} {k j : Nat} (h : k < B.length) (hj : B.getD k 0 = ((j : Nat) : Int)) (n : Nat) : tabB (up (bst B k) j true) n = tabB (bst B (k + 1)) n := tabB_congr fun x _ => by
  have ts : B.take (k + 1) = B.take k ++ [((j : Nat) : Int)] := by rw [List.take_succ_eq_append_getElem h]; simp [h] at hj; rw [hj]
  unfold bst
  rw [ts]
  by_cases e : x = j
  · subst e; rw [up_same]; simp
  · rw [up_ne _ _ e, Bool.eq_iff_iff]
    simp only [decide_eq_true_eq, List.mem_append, List.mem_singleton]
    constructor
    · exact .inl
    · rintro (h | h)
      · exact h
      · exact absurd (by omega) e
/-- A list of gloves, rising. -/
def ris (n : Nat) (B : List Int) (i : Nat) : Bool := decide (0 ≤ B.getD i 0) && (decide (B.getD i 0 < (n : Nat)) && (decide (i = 0) || decide (B.getD (i - 1) 0 < B.getD i 0)))
open Classical in
/-- What Odd answers. -/
noncomputable def oddA (adj : Nat → Nat → Bool) (n : Nat) (B : List Int) : Int × Int := if ∀ i, i < B.length → ris n B i = true then (((oddF adj n (bst B B.length) n).1 : Nat), 0) else (0, 2)
theorem oddA_bad {adj : Nat → Nat → Bool} {n : Nat} {B : List Int} {d e : Int} {i : Nat} (hp : oddA adj n B = (d, e)) (hi : i < B.length) (hv : ris n B i = false) : d = 0 ∧ e = 2 := by
  unfold oddA at hp
  rw [if_neg (fun h => by rw [h i hi] at hv; cases hv)] at hp
  injection hp with h1 h2
  exact ⟨h1.symm, h2.symm⟩
theorem oddA_good {adj : Nat → Nat → Bool} {n : Nat} {B : List Int} {d e : Int} (hp : oddA adj n B = (d, e)) (hv : ∀ i, i < B.length → ris n B i = true) : d = ((oddF adj n (bst B B.length) n).1 : Nat) ∧ e = 0 := by
  unfold oddA at hp
  rw [if_pos hv] at hp
  injection hp with h1 h2
  exact ⟨h1.symm, h2.symm⟩
theorem oddF_le (adj : Nat → Nat → Bool) (n : Nat) (b : Nat → Bool) : ∀ k, (oddF adj n b k).1 ≤ k
  | 0 => Nat.le_refl _
  | k + 1 => by
    have := oddF_le adj n b k
    simp only [oddF]
    split <;> omega
/-- The block of a class. -/
def clb (T : List Nat) : Option Blk := if T.length = 1 then some { cells := iv (nats T) } else some { cells := iv (nats T), kind := .grow, size := 1 }
theorem clb_one {T : List Nat} (h : T.length = 1) : clb T = some { cells := iv (nats T) } := if_pos h
theorem clb_more {T : List Nat} (h : T.length ≠ 1) (h0 : 0 < T.length) : clb T = gb (iv (nats T)) 1 := by
  unfold clb; rw [if_neg h, gb_pos (by rw [iv_len, nats_len]; exact h0)]
theorem clb_snoc {T : List Nat} {j : Nat} (h0 : 0 < T.length) : clb (T ++ [j]) = some { cells := iv (nats T) ++ [.int .i64 (j : Nat)], kind := .grow, size := 1 } := by
  unfold clb; rw [if_neg (by rw [List.length_append, List.length_singleton]; omega)]; simp [iv, nats]
theorem clb_rd {m : AM} {x : Option Blk} {T : List Nat} {X : AM} {k : Nat} (hk : k < T.length) : Rd (m ++ (x :: clb T :: X)) (m.length + 1) k (.int .i64 ((T.getD k 0 : Nat) : Int)) := by
  have h := iv_get (l := nats T) (k := k) (by rw [nats_len]; exact hk)
  rw [nats_get] at h
  unfold clb
  split <;> exact Rd.new rfl h
theorem bfs_end {adj : Nat → Nat → Bool} {n f k : Nat} {s : BS} (h : ¬ k < s.1.length) : bfs adj n f k s = s := by
  cases f with
  | zero => rfl
  | succ f => simp only [bfs]; rw [if_neg h]
theorem oddF_skip {adj : Nat → Nat → Bool} {n : Nat} {b : Nat → Bool} {k : Nat} (h : (oddF adj n b k).2 k = true) : oddF adj n b (k + 1) = oddF adj n b k := by simp only [oddF]; rw [if_pos h]
theorem oddF_take {adj : Nat → Nat → Bool} {n : Nat} {b : Nat → Bool} {k d : Nat} {S : Nat → Bool} (hk : oddF adj n b k = (d, S)) (h : S k = false) {s : BS} (hs : bfs adj n n 0 ([k], up S k true) = s) : oddF adj n b (k + 1) = (d + s.1.length % 2, s.2) := by
  simp only [oddF]; rw [hk, if_neg (by show ¬ S k = true; rw [h]; simp)]; simp only; rw [hs]
set_option maxRecDepth 100000 in
theorem Odd_no {m : AM} {hv bw : Value} {u : Ru} {H : List Gl} (hh : Gls m hv H) (h1 : H.length ≤ 100000) (hn : (sB H && uB u) = false) : ACall Try.prog 44 #[hv, u.v, bw] m (Ret (.tuple #[.int .i64 0, .int .i64 2]) m) := by
  have r0 : ∀ T : AM, RdL (m ++ (some { cells := u.cells } :: T)) (m.length + 0) 0 u.cells := fun T => RdL.new rfl rfl
  have hc := fun T => heaped_no (u := u) (hh.old T) h1 hn
  refine ACall.start Try.func44 rfl rfl ?_
  (repeat (first | (with_reducible refine AWo.cons ?_) | ((with_reducible refine Step.id ?_); first | ((with_reducible apply Step.move); exact rfl; exact rfl) | ((with_reducible apply Step.assign); exact rfl; exact rfl) | ((with_reducible apply Step.loadL (n := 8)); exact rfl; (focus (decide +kernel)); (focus (decide +kernel)); exact rfl; (focus (exact RdL.new rfl rfl)); exact rfl; exact rfl) | ((with_reducible apply Step.ptrNil); exact rfl; exact rfl; exact un102; exact rfl) | ((with_reducible apply Step.callR fit); exact rfl; exact Try.func74; exact rfl; exact rfl; exact (hc _)) | ((with_reducible apply Step.box 0); exact rfl; exact rfl; (focus (kernel_rfl)); exact rfl; (focus (first | (simp only [List.nil_append, List.cons_append, List.set_cons_zero, List.set_cons_succ, iv_set, bv_set, iv_rep, bv_rep]; done) | (simp only [List.nil_append, List.cons_append, List.set_cons_zero, List.set_cons_succ, iv_set, bv_set, iv_rep, bv_rep]; rfl) | rfl)))) | (with_reducible refine AWo.nil ?_) | ((with_reducible apply AW.seq)) | ((with_reducible apply Then.n)) | ((with_reducible apply AW.regL)) | ((with_reducible apply AW.condT); exact rfl; (focus (rfl)))))
  (refine AW.retD (l := [(6, _), (7, _)]) (by repeat (first | exact trivial | (refine And.intro ⟨rfl, by (exact .int _ _)⟩ ?_))) ?_; (repeat (first | refine Then.r ?_ | refine InBlk.r ?_)))
  exact ⟨_, rfl, rfl, rfl⟩
set_option maxHeartbeats 8000000 in
set_option maxRecDepth 100000 in
theorem Odd_ok {m : AM} {hv bw : Value} {u : Ru} {H : List Gl} {B : List Int} (hh : Gls m hv H) (hH : sB H = true) (hu : uB u = true) (hB : Ints m bw B) (hBl : B.length ≤ 9223372036854775807) {d e : Int} (hp : oddA (ag u H) H.length B = (d, e)) :
    ACall Try.prog 44 #[hv, u.v, bw] m (Ret (.tuple #[.int .i64 d, .int .i64 e]) m) := by
  have h1 : H.length ≤ 32 ∧ H.all gB = true := by simpa [sB] using hH
  have r0 : ∀ T : AM, RdL (m ++ (some { cells := u.cells } :: T)) (m.length + 0) 0 u.cells := fun T => RdL.new rfl rfl
  refine ACall.drop (Ren.tupG [.int .i64 _, .int .i64 _] rfl) ?_
  refine ACall.start Try.func44 rfl rfl ?_
  (repeat (first | (with_reducible refine AWo.cons ?_) | ((with_reducible refine Step.id ?_); first | ((with_reducible apply Step.move); exact rfl; exact rfl) | ((with_reducible apply Step.assign); exact rfl; exact rfl) | ((with_reducible apply Step.loadL (n := 8)); exact rfl; (focus (decide +kernel)); (focus (decide +kernel)); exact rfl; (focus (exact RdL.new rfl rfl)); exact rfl; exact rfl) | ((with_reducible apply Step.box 0); exact rfl; exact rfl; (focus (kernel_rfl)); exact rfl; (focus (first | (simp only [List.nil_append, List.cons_append, List.set_cons_zero, List.set_cons_succ, iv_set, bv_set, iv_rep, bv_rep]; done) | (simp only [List.nil_append, List.cons_append, List.set_cons_zero, List.set_cons_succ, iv_set, bv_set, iv_rep, bv_rep]; rfl) | rfl)))) | (with_reducible refine AWo.nil ?_) | ((with_reducible apply AW.seq)) | ((with_reducible apply Then.n)) | ((with_reducible apply AW.regL))))
  ((with_reducible apply Step.callX fit); exact rfl; exact Try.func74; exact rfl; exact rfl; exact (heaped_ok (hh.old _) hH hu))
  rintro gvv m1 ⟨N0, hN0⟩ hG
  have hMN : ∃ N, m1 = m ++ N := ⟨_, by rw [hN0, List.append_assoc]⟩
  have hB1 : Ints m1 bw B := by rw [hN0]; exact (hB.old _).old _
  clear r0 hN0
  generalize ag u H = adj at *
  generalize H.length = n at *
  obtain ⟨a, wv, b, rfl, t1, t2, t3, t4, t5, t6⟩ := id hG
  obtain ⟨ba, bo, g1, g2, g3⟩ := id hB1
  have wt : Low m1.length (.pointer (some ⟨a, 0, none⟩)) := .ptr t1
  have wb : Low m1.length bw := Low.of_sl g1 g2
  (repeat (first | (with_reducible refine AWo.cons ?_) | ((with_reducible refine Step.id ?_); first | ((with_reducible apply Step.move); exact rfl; exact rfl) | ((with_reducible apply Step.assign); exact rfl; exact rfl) | ((with_reducible apply Step.ptrNot); exact rfl; exact rfl; exact un102; exact rfl)) | (with_reducible refine AWo.nil ?_) | ((fail_if_success (with_reducible refine AW.atR (id := 4) ?_)); ((with_reducible apply AW.seq))) | ((with_reducible apply Then.n)) | ((with_reducible apply AW.regL)) | ((with_reducible apply AW.skip)) | ((with_reducible apply AW.condF); exact rfl; (focus (rfl)))))
  rw [List.append_nil]
  refine AW.rebase ?_
  (repeat (first | (with_reducible refine AWo.cons ?_) | ((with_reducible refine Step.id ?_); first | ((with_reducible apply Step.move); exact rfl; exact rfl) | ((with_reducible apply Step.assign); exact rfl; exact rfl) | ((with_reducible apply Step.load); exact rfl; (focus (decide +kernel)); exact rfl; (focus (exact t2.old _))) | ((with_reducible apply Step.field0); exact rfl; (focus (decide +kernel)); exact rfl) | ((with_reducible apply Step.len); exact rfl; (focus (assumption)); (focus (decide +kernel)); exact rfl) | ((with_reducible apply Step.nilp); exact rfl; exact rfl) | ((with_reducible apply Step.make1 0); exact rfl; exact rfl; exact rfl; exact el88; (focus (omega)); exact rfl; (focus (first | (simp only [List.nil_append, List.cons_append, List.set_cons_zero, List.set_cons_succ, iv_set, bv_set, iv_rep, bv_rep]; done) | (simp only [List.nil_append, List.cons_append, List.set_cons_zero, List.set_cons_succ, iv_set, bv_set, iv_rep, bv_rep]; rfl) | rfl)))) | (with_reducible refine AWo.nil ?_) | ((with_reducible apply AW.seq)) | ((with_reducible apply Then.n)) | ((with_reducible apply AW.regL)) | ((with_reducible apply AW.block))))
  refine AW.loopT (fun rk t L => ∃ k : Nat, rk = B.length - k ∧ k ≤ B.length ∧ (∀ i, i < k → ris n B i = true) ∧ L = [some { cells := bv (tabB (bst B k) n) }] ∧ t = [(2, bw), (8, .pointer (some ⟨a, 0, none⟩)), (9, .slice (some ⟨m1.length + 0, 0, none⟩) n n), (28, bw), (29, .int .i64 (B.length : Nat)), (30, .int .i64 (k : Nat))])
    ⟨_, _, [some { cells := bv (List.replicate n false) }], (Or.inl ⟨rfl, (by repeat (first | exact trivial | (refine And.intro rfl ?_)))⟩), 0, rfl, Nat.zero_le _, fun _ h => absurd h (Nat.not_lt_zero _), by rw [bst_zero, ← tabB_rep], rfl⟩ ?_
  rintro rk t L ⟨k, rfl, hk, hr, rfl, rfl⟩
  rcases Nat.lt_or_ge k B.length with hlt | hge
  · have q1 := g3 k hlt
    have hrk : ris n B k = (decide (0 ≤ B.getD k 0) && (decide (B.getD k 0 < (n : Nat)) && (decide (k = 0) || decide (B.getD (k - 1) 0 < B.getD k 0)))) := rfl
    have hbad := oddA_bad hp hlt
    have hgood : ris n B k = true → ∀ i, i < k + 1 → ris n B i = true := fun h i hi => by
      by_cases e : i = k
      · subst e; exact h
      · exact hr i (by omega)
    have hup := fun j hj => bst_up (j := j) hlt hj n
    obtain ⟨x, hx⟩ : ∃ x, B.getD k 0 = x := ⟨_, rfl⟩
    rw [hx] at q1 hrk hup
    by_cases e2 : x < 0
    · obtain ⟨rfl, rfl⟩ := hbad (by rw [hrk, decide_eq_false (by omega)]; rfl)
      (repeat (first | (with_reducible refine AWo.cons ?_) | ((with_reducible refine Step.id ?_); first | ((with_reducible apply Step.gdU); exact rfl; exact rfl) | ((with_reducible apply Step.gdF); exact rfl; exact rfl; (focus (first | rfl | (simp only [decide_eq_true_eq, decide_eq_false_iff_not, Bool.not_eq_true', Bool.not_eq_false', Bool.not_true, Bool.not_false]; first | assumption | omega)))) | ((with_reducible apply Step.move); exact rfl; exact rfl) | ((with_reducible apply Step.assign); exact rfl; exact rfl) | ((with_reducible apply Step.load); exact rfl; (focus (decide +kernel)); exact rfl; (focus (exact q1.old _))) | ((with_reducible apply Step.ix1); exact rfl; (focus (assumption)); exact rfl; (focus (decide +kernel)); exact rfl; (focus (omega))) | ((with_reducible apply Step.lss); exact rfl; exact rfl; exact rfl) | ((with_reducible apply Step.pickT); exact rfl; exact rfl; exact rfl; exact rfl; (focus (first | rfl | (simp only [decide_eq_true_eq, decide_eq_false_iff_not, Bool.not_eq_true', Bool.not_eq_false', Bool.not_true, Bool.not_false]; first | assumption | omega))))) | (with_reducible refine AWo.nil ?_) | ((with_reducible apply AW.seq)) | ((with_reducible apply Then.n)) | ((with_reducible apply AW.regL)) | ((with_reducible apply AW.block)) | ((with_reducible apply AW.skip)) | ((with_reducible apply AW.condT); exact rfl; (focus (first | rfl | (simp only [decide_eq_true_eq, decide_eq_false_iff_not, Bool.not_eq_true', Bool.not_eq_false', Bool.not_true, Bool.not_false]; first | assumption | omega))))))
      (refine AW.ret ?_; (repeat (first | refine Then.r ?_ | refine InBlk.r ?_)))
      obtain ⟨N, rfl⟩ := hMN
      exact ⟨_, rfl, rfl, _, by rw [List.append_assoc]⟩
    by_cases e3 : ((n : Nat) : Int) ≤ x
    · obtain ⟨rfl, rfl⟩ := hbad (by rw [hrk, decide_eq_false (p := x < ((n : Nat) : Int)) (by omega)]; simp)
      (repeat (first | (with_reducible refine AWo.cons ?_) | ((with_reducible refine Step.id ?_); first | ((with_reducible apply Step.gdU); exact rfl; exact rfl) | ((with_reducible apply Step.gdT); exact rfl; exact rfl; (focus ((simp only [decide_eq_true_eq, decide_eq_false_iff_not, Bool.not_eq_true', Bool.not_eq_false', Bool.not_true, Bool.not_false]; first | assumption | omega)))) | ((with_reducible apply Step.gdF); exact rfl; exact rfl; (focus ((simp only [decide_eq_true_eq, decide_eq_false_iff_not, Bool.not_eq_true', Bool.not_eq_false', Bool.not_true, Bool.not_false]; first | assumption | omega)))) | ((with_reducible apply Step.move); exact rfl; exact rfl) | ((with_reducible apply Step.assign); exact rfl; exact rfl) | ((with_reducible apply Step.load); exact rfl; (focus (decide +kernel)); exact rfl; (focus (first | exact q1.old _ | exact t2.old _))) | ((with_reducible apply Step.ix1); exact rfl; (focus (assumption)); exact rfl; (focus (decide +kernel)); exact rfl; (focus (omega))) | ((with_reducible apply Step.field0); exact rfl; (focus (decide +kernel)); exact rfl) | ((with_reducible apply Step.lss); exact rfl; exact rfl; exact rfl) | ((with_reducible apply Step.geq); exact rfl; exact rfl; exact rfl) | ((with_reducible apply Step.nilp); exact rfl; exact rfl) | ((with_reducible apply Step.pickT); exact rfl; exact rfl; exact rfl; exact rfl; (focus ((simp only [decide_eq_true_eq, decide_eq_false_iff_not, Bool.not_eq_true', Bool.not_eq_false', Bool.not_true, Bool.not_false]; first | assumption | omega)))) | ((with_reducible apply Step.pickF); exact rfl; exact rfl; exact rfl; exact rfl; (focus ((simp only [decide_eq_true_eq, decide_eq_false_iff_not, Bool.not_eq_true', Bool.not_eq_false', Bool.not_true, Bool.not_false]; first | assumption | omega))))) | (with_reducible refine AWo.nil ?_) | ((with_reducible apply AW.seq)) | ((with_reducible apply Then.n)) | ((with_reducible apply AW.regL)) | ((with_reducible apply AW.block)) | ((with_reducible apply AW.skip)) | ((with_reducible apply AW.condT); exact rfl; (focus (first | rfl | (simp only [decide_eq_true_eq, decide_eq_false_iff_not, Bool.not_eq_true', Bool.not_eq_false', Bool.not_true, Bool.not_false]; first | assumption | omega))))))
      (refine AW.ret ?_; (repeat (first | refine Then.r ?_ | refine InBlk.r ?_)))
      obtain ⟨N, rfl⟩ := hMN
      exact ⟨_, rfl, rfl, _, by rw [List.append_assoc]⟩
    obtain ⟨j, rfl⟩ := Int.eq_ofNat_of_zero_le (show 0 ≤ x by omega)
    have hj : j < n := by omega
    have hup := hup j rfl
    rcases k with _ | k
    · have hg := hgood (by rw [hrk, decide_eq_true (by omega), decide_eq_true (by omega)]; rfl)
      (repeat (first | (with_reducible refine AWo.cons ?_) | ((with_reducible refine Step.id ?_); first | ((with_reducible apply Step.gdT); exact rfl; exact rfl; (focus (first | rfl | (simp only [decide_eq_true_eq, decide_eq_false_iff_not, Bool.not_eq_true', Bool.not_eq_false', Bool.not_true, Bool.not_false]; first | assumption | omega)))) | ((with_reducible apply Step.gdF); exact rfl; exact rfl; (focus (rfl))) | ((with_reducible apply Step.move); exact rfl; exact rfl) | ((with_reducible apply Step.assign); exact rfl; exact rfl) | ((with_reducible apply Step.load); exact rfl; (focus (decide +kernel)); exact rfl; (focus (first | exact q1.old _ | exact t2.old _))) | ((with_reducible apply Step.ix1z); exact rfl; (focus (exact Sl.mk (by omega))); exact rfl; (focus (decide +kernel)); exact rfl; (focus (omega))) | ((with_reducible apply Step.ix1); exact rfl; (focus (assumption)); exact rfl; (focus (decide +kernel)); exact rfl; (focus (omega))) | ((with_reducible apply Step.field0); exact rfl; (focus (decide +kernel)); exact rfl) | ((with_reducible apply Step.add); exact rfl; exact rfl; (focus (omega)); exact rfl) | ((with_reducible apply Step.lss); exact rfl; exact rfl; exact rfl) | ((with_reducible apply Step.gtr); exact rfl; exact rfl; exact rfl) | ((with_reducible apply Step.geq); exact rfl; exact rfl; exact rfl) | ((with_reducible apply Step.nilp); exact rfl; exact rfl) | ((with_reducible apply Step.pickF); exact rfl; exact rfl; exact rfl; exact rfl; (focus (first | rfl | (simp only [decide_eq_true_eq, decide_eq_false_iff_not, Bool.not_eq_true', Bool.not_eq_false', Bool.not_true, Bool.not_false]; first | assumption | omega)))) | ((with_reducible apply Step.store (k := 0)); exact rfl; exact rfl; exact rfl; exact rfl; (focus (decide +kernel)); exact rfl; exact rfl; (focus (first | omega | (simp [iv, bv]; done) | (simp [iv, bv]; omega))); (focus (first | (simp only [List.nil_append, List.cons_append, List.set_cons_zero, List.set_cons_succ, iv_set, bv_set, iv_rep, bv_rep]; done) | (simp only [List.nil_append, List.cons_append, List.set_cons_zero, List.set_cons_succ, iv_set, bv_set, iv_rep, bv_rep]; rfl) | rfl)))) | (with_reducible refine AWo.nil ?_) | ((with_reducible apply AW.seq)) | ((with_reducible apply Then.n)) | ((with_reducible apply AW.regL)) | ((with_reducible apply AW.block)) | ((with_reducible apply InBlk.n)) | ((with_reducible apply AW.skip)) | ((with_reducible apply AW.condT); exact rfl; (focus ((simp only [decide_eq_true_eq, decide_eq_false_iff_not, Bool.not_eq_true', Bool.not_eq_false', Bool.not_true, Bool.not_false]; first | assumption | omega)))) | ((with_reducible apply AW.condF); exact rfl; (focus (rfl)))))
      exact ⟨_, _, [some { cells := bv (tabB (bst B 1) n) }], by omega, by rw [tabB_set, hup]; exact (Or.inl ⟨rfl, (by repeat (first | exact trivial | (refine And.intro rfl ?_)))⟩), 1, rfl, by omega, hg, rfl, rfl⟩
    · have q2 := g3 k (by omega)
      have e1 : ((k + 1 : Nat) : Int) - 1 = ((k : Nat) : Int) := by omega
      rw [Nat.add_sub_cancel] at hrk
      obtain ⟨y, hy⟩ : ∃ y, B.getD k 0 = y := ⟨_, rfl⟩
      rw [hy] at q2 hrk
      by_cases e4 : y < ((j : Nat) : Int)
      · have hg := hgood (by rw [hrk, decide_eq_true (p := (0 : Int) ≤ ((j : Nat) : Int)) (by omega), decide_eq_true (p := ((j : Nat) : Int) < ((n : Nat) : Int)) (by omega), decide_eq_true e4]; simp)
        (repeat (first | (with_reducible refine AWo.cons ?_) | ((with_reducible refine Step.id ?_); first | ((with_reducible apply Step.gdT); exact rfl; exact rfl; (focus (first | rfl | (simp only [decide_eq_true_eq, decide_eq_false_iff_not, Bool.not_eq_true', Bool.not_eq_false', Bool.not_true, Bool.not_false]; first | assumption | omega)))) | ((with_reducible apply Step.move); exact rfl; exact rfl) | ((with_reducible apply Step.assign); exact rfl; exact rfl) | ((with_reducible apply Step.load); exact rfl; (focus (decide +kernel)); exact rfl; (focus (first | exact q1.old _ | exact t2.old _ | exact q2.old _))) | ((with_reducible apply Step.ix1z); exact rfl; (focus (exact Sl.mk (by omega))); exact rfl; (focus (decide +kernel)); exact rfl; (focus (omega))) | ((with_reducible apply Step.ix1); exact rfl; (focus (assumption)); exact rfl; (focus (decide +kernel)); exact rfl; (focus (omega))) | ((with_reducible apply Step.field0); exact rfl; (focus (decide +kernel)); exact rfl) | ((with_reducible apply Step.subE); exact rfl; exact rfl; (focus (assumption)); (focus (omega)); exact rfl) | ((with_reducible apply Step.add); exact rfl; exact rfl; (focus (omega)); exact rfl) | ((with_reducible apply Step.lss); exact rfl; exact rfl; exact rfl) | ((with_reducible apply Step.leq); exact rfl; exact rfl; exact rfl) | ((with_reducible apply Step.gtr); exact rfl; exact rfl; exact rfl) | ((with_reducible apply Step.geq); exact rfl; exact rfl; exact rfl) | ((with_reducible apply Step.nilp); exact rfl; exact rfl) | ((with_reducible apply Step.pickT); exact rfl; exact rfl; exact rfl; exact rfl; (focus ((simp only [decide_eq_true_eq, decide_eq_false_iff_not, Bool.not_eq_true', Bool.not_eq_false', Bool.not_true, Bool.not_false]; first | assumption | omega)))) | ((with_reducible apply Step.pickF); exact rfl; exact rfl; exact rfl; exact rfl; (focus (first | rfl | (simp only [decide_eq_true_eq, decide_eq_false_iff_not, Bool.not_eq_true', Bool.not_eq_false', Bool.not_true, Bool.not_false]; first | assumption | omega)))) | ((with_reducible apply Step.store (k := 0)); exact rfl; exact rfl; exact rfl; exact rfl; (focus (decide +kernel)); exact rfl; exact rfl; (focus (first | omega | (simp [iv, bv]; done) | (simp [iv, bv]; omega))); (focus (first | (simp only [List.nil_append, List.cons_append, List.set_cons_zero, List.set_cons_succ, iv_set, bv_set, iv_rep, bv_rep]; done) | (simp only [List.nil_append, List.cons_append, List.set_cons_zero, List.set_cons_succ, iv_set, bv_set, iv_rep, bv_rep]; rfl) | rfl)))) | (with_reducible refine AWo.nil ?_) | ((with_reducible apply AW.seq)) | ((with_reducible apply Then.n)) | ((with_reducible apply AW.regL)) | ((with_reducible apply AW.block)) | ((with_reducible apply InBlk.n)) | ((with_reducible apply AW.skip)) | ((with_reducible apply AW.condT); exact rfl; (focus ((simp only [decide_eq_true_eq, decide_eq_false_iff_not, Bool.not_eq_true', Bool.not_eq_false', Bool.not_true, Bool.not_false]; first | assumption | omega)))) | ((with_reducible apply AW.condF); exact rfl; (focus ((simp only [decide_eq_true_eq, decide_eq_false_iff_not, Bool.not_eq_true', Bool.not_eq_false', Bool.not_true, Bool.not_false]; first | assumption | omega))))))
        exact ⟨_, _, [some { cells := bv (tabB (bst B (k + 1 + 1)) n) }], by omega, by rw [tabB_set, hup]; exact (Or.inl ⟨rfl, (by repeat (first | exact trivial | (refine And.intro rfl ?_)))⟩), k + 1 + 1, rfl, by omega, hg, rfl, rfl⟩
      · obtain ⟨rfl, rfl⟩ := hbad (by rw [hrk, decide_eq_false e4]; simp)
        (repeat (first | (with_reducible refine AWo.cons ?_) | ((with_reducible refine Step.id ?_); first | ((with_reducible apply Step.gdT); exact rfl; exact rfl; (focus (first | rfl | (simp only [decide_eq_true_eq, decide_eq_false_iff_not, Bool.not_eq_true', Bool.not_eq_false', Bool.not_true, Bool.not_false]; first | assumption | omega)))) | ((with_reducible apply Step.move); exact rfl; exact rfl) | ((with_reducible apply Step.assign); exact rfl; exact rfl) | ((with_reducible apply Step.load); exact rfl; (focus (decide +kernel)); exact rfl; (focus (first | exact q1.old _ | exact t2.old _ | exact q2.old _))) | ((with_reducible apply Step.ix1); exact rfl; (focus (assumption)); exact rfl; (focus (decide +kernel)); exact rfl; (focus (omega))) | ((with_reducible apply Step.field0); exact rfl; (focus (decide +kernel)); exact rfl) | ((with_reducible apply Step.subE); exact rfl; exact rfl; (focus (assumption)); (focus (omega)); exact rfl) | ((with_reducible apply Step.lss); exact rfl; exact rfl; exact rfl) | ((with_reducible apply Step.leq); exact rfl; exact rfl; exact rfl) | ((with_reducible apply Step.gtr); exact rfl; exact rfl; exact rfl) | ((with_reducible apply Step.geq); exact rfl; exact rfl; exact rfl) | ((with_reducible apply Step.nilp); exact rfl; exact rfl) | ((with_reducible apply Step.pickT); exact rfl; exact rfl; exact rfl; exact rfl; (focus ((simp only [decide_eq_true_eq, decide_eq_false_iff_not, Bool.not_eq_true', Bool.not_eq_false', Bool.not_true, Bool.not_false]; first | assumption | omega)))) | ((with_reducible apply Step.pickF); exact rfl; exact rfl; exact rfl; exact rfl; (focus (first | rfl | (simp only [decide_eq_true_eq, decide_eq_false_iff_not, Bool.not_eq_true', Bool.not_eq_false', Bool.not_true, Bool.not_false]; first | assumption | omega))))) | (with_reducible refine AWo.nil ?_) | ((with_reducible apply AW.seq)) | ((with_reducible apply Then.n)) | ((with_reducible apply AW.regL)) | ((with_reducible apply AW.block)) | ((with_reducible apply AW.skip)) | ((with_reducible apply AW.condT); exact rfl; (focus ((simp only [decide_eq_true_eq, decide_eq_false_iff_not, Bool.not_eq_true', Bool.not_eq_false', Bool.not_true, Bool.not_false]; first | assumption | omega))))))
        (refine AW.ret ?_; (repeat (first | refine Then.r ?_ | refine InBlk.r ?_)))
        obtain ⟨N, rfl⟩ := hMN
        exact ⟨_, rfl, rfl, _, by rw [List.append_assoc]⟩
  · obtain rfl : k = B.length := by omega
    obtain ⟨rfl, rfl⟩ := oddA_good hp hr
    (repeat (first | (with_reducible refine AWo.cons ?_) | ((with_reducible refine Step.id ?_); first | ((with_reducible apply Step.move); exact rfl; exact rfl) | ((with_reducible apply Step.assign); exact rfl; exact rfl) | ((with_reducible apply Step.lss); exact rfl; exact rfl; exact rfl) | ((with_reducible apply Step.len); exact rfl; (focus (exact Sl.mk (by omega))); (focus (decide +kernel)); exact rfl)) | (with_reducible refine AWo.nil ?_) | ((with_reducible apply AW.seq)) | ((with_reducible apply Then.n)) | ((with_reducible apply AW.regL)) | ((with_reducible apply AW.block)) | ((with_reducible apply AW.exit)) | ((with_reducible apply InBlk.hit)) | ((with_reducible apply Then.e)) | ((with_reducible apply AW.condF); exact rfl; (focus ((simp only [decide_eq_true_eq, decide_eq_false_iff_not, Bool.not_eq_true', Bool.not_eq_false', Bool.not_true, Bool.not_false]; first | assumption | omega))))))
    refine AW.loopT (fun rk t L => ∃ (i d : Nat) (S : Nat → Bool), rk = n - i ∧ i ≤ n ∧ oddF adj n (bst B B.length) i = (d, S) ∧ L = [some { cells := bv (tabB S n) }] ∧ t = [(8, .pointer (some ⟨a, 0, none⟩)), (9, .slice (some ⟨m1.length + 0, 0, none⟩) n n), (12, .int .i64 (d : Nat)), (62, .slice (some ⟨m1.length + 0, 0, none⟩) n n), (63, .int .i64 (n : Nat)), (64, .int .i64 (i : Nat))])
      ⟨_, _, [some { cells := bv (tabB (bst B B.length) n) }], (Or.inl ⟨rfl, (by repeat (first | exact trivial | (refine And.intro rfl ?_)))⟩), 0, 0, bst B B.length, rfl, Nat.zero_le _, rfl, rfl, rfl⟩ ?_
    rintro rk t L ⟨i, d, S, rfl, hi, hod, rfl, rfl⟩
    have hdl : d ≤ i := by have := oddF_le adj n (bst B B.length) i; rw [hod] at this; exact this
    rcases Nat.lt_or_ge i n with hil | hig
    · have rS : ∀ T : AM, Rd (m1 ++ (some { cells := bv (tabB S n) } :: T)) (m1.length + 0) i (.bool (S i)) := fun T => by rw [← tabB_get S hil]; exact Rd.new rfl (bv_get (by simpa using hil))
      cases hSi : S i with
      | true =>
        rw [hSi] at rS
        have hod' : oddF adj n (bst B B.length) (i + 1) = (d, S) := by rw [oddF_skip (by rw [hod]; exact hSi), hod]
        (repeat (first | (with_reducible refine AWo.cons ?_) | ((with_reducible refine Step.id ?_); first | ((with_reducible apply Step.move); exact rfl; exact rfl) | ((with_reducible apply Step.assign); exact rfl; exact rfl) | ((with_reducible apply Step.load); exact rfl; (focus (decide +kernel)); exact rfl; (focus (exact rS _))) | ((with_reducible apply Step.ix1z); exact rfl; (focus (exact Sl.mk (by omega))); exact rfl; (focus (decide +kernel)); exact rfl; (focus (omega))) | ((with_reducible apply Step.add); exact rfl; exact rfl; (focus (omega)); exact rfl) | ((with_reducible apply Step.lss); exact rfl; exact rfl; exact rfl)) | (with_reducible refine AWo.nil ?_) | ((with_reducible apply AW.seq)) | ((with_reducible apply Then.n)) | ((with_reducible apply AW.regL)) | ((with_reducible apply AW.block)) | ((with_reducible apply AW.exit)) | ((with_reducible apply InBlk.hit)) | ((with_reducible apply Then.e)) | ((with_reducible apply AW.skip)) | ((with_reducible apply AW.condT); exact rfl; (focus (first | rfl | (simp only [decide_eq_true_eq, decide_eq_false_iff_not, Bool.not_eq_true', Bool.not_eq_false', Bool.not_true, Bool.not_false]; first | assumption | omega))))))
        exact ⟨_, _, [some { cells := bv (tabB S n) }], by omega, (Or.inl ⟨rfl, (by repeat (first | exact trivial | (refine And.intro rfl ?_)))⟩), i + 1, d, S, rfl, by omega, hod', rfl, rfl⟩
      | false =>
        rw [hSi] at rS
        obtain ⟨res, hres⟩ : ∃ res, bfs adj n n 0 ([i], up S i true) = res := ⟨_, rfl⟩
        have hod' := oddF_take hod hSi hres
        have h0 : BInv n S ([i], up S i true) := ⟨by simp, fun x hx => by rw [List.mem_singleton] at hx; omega, fun y => by
          show up S i true y = true ↔ S y = true ∨ y ∈ [i]
          by_cases e : y = i
          · subst e; simp [up_same]
          · rw [up_ne _ _ e]; simp [e], fun y hy => by rw [List.mem_singleton] at hy; subst hy; exact hSi⟩
        (repeat (first | (with_reducible refine AWo.cons ?_) | ((with_reducible refine Step.id ?_); first | ((with_reducible apply Step.move); exact rfl; exact rfl) | ((with_reducible apply Step.assign); exact rfl; exact rfl) | ((with_reducible apply Step.load); exact rfl; (focus (decide +kernel)); exact rfl; (focus (exact rS _))) | ((with_reducible apply Step.ix1z); exact rfl; (focus (exact Sl.mk (by omega))); exact rfl; (focus (decide +kernel)); exact rfl; (focus (omega))) | ((with_reducible apply Step.lss); exact rfl; exact rfl; exact rfl) | ((with_reducible apply Step.store (k := 0)); exact rfl; exact rfl; exact rfl; exact rfl; (focus (decide +kernel)); exact rfl; exact rfl; (focus (first | omega | (simp [iv, bv]; done) | (simp [iv, bv]; omega))); (focus (first | (simp only [List.nil_append, List.cons_append, List.set_cons_zero, List.set_cons_succ, iv_set, bv_set, iv_rep, bv_rep]; done) | (simp only [List.nil_append, List.cons_append, List.set_cons_zero, List.set_cons_succ, iv_set, bv_set, iv_rep, bv_rep]; rfl) | rfl))) | ((with_reducible apply Step.buildS 1); exact rfl; exact rfl; exact (fun _ _ => bs27x); exact rfl; (focus (first | (simp only [List.nil_append, List.cons_append, List.set_cons_zero, List.set_cons_succ, iv_set, bv_set, iv_rep, bv_rep]; done) | (simp only [List.nil_append, List.cons_append, List.set_cons_zero, List.set_cons_succ, iv_set, bv_set, iv_rep, bv_rep]; rfl) | rfl)))) | (with_reducible refine AWo.nil ?_) | ((with_reducible apply AW.seq)) | ((with_reducible apply Then.n)) | ((with_reducible apply AW.regL)) | ((with_reducible apply AW.block)) | ((with_reducible apply AW.skip)) | ((with_reducible apply AW.condT); exact rfl; (focus ((simp only [decide_eq_true_eq, decide_eq_false_iff_not, Bool.not_eq_true', Bool.not_eq_false', Bool.not_true, Bool.not_false]; first | assumption | omega)))) | ((with_reducible apply AW.condF); exact rfl; (focus (rfl)))))
        refine AW.loopT (fun rk t L => ∃ (k : Nat) (s : BS), rk = n - k ∧ bfs adj n (n - k) k s = res ∧ BInv n S s ∧ k ≤ s.1.length ∧ 0 < s.1.length ∧ L = [some { cells := bv (tabB s.2 n) }, clb s.1] ∧ t = [(8, .pointer (some ⟨a, 0, none⟩)), (9, .slice (some ⟨m1.length + 0, 0, none⟩) n n), (12, .int .i64 (d : Nat)), (14, .slice (some ⟨m1.length + 1, 0, none⟩) s.1.length s.1.length), (15, .int .i64 (k : Nat)), (62, .slice (some ⟨m1.length + 0, 0, none⟩) n n), (63, .int .i64 (n : Nat)), (64, .int .i64 (i : Nat))])
          ⟨_, _, [some { cells := bv (tabB (up S i true) n) }, some { cells := iv (nats [i]) }], by rw [tabB_set]; exact (Or.inl ⟨rfl, (by repeat (first | exact trivial | (refine And.intro rfl ?_)))⟩), 0, ([i], up S i true), rfl, by rw [Nat.sub_zero]; exact hres, h0, Nat.zero_le _, by simp, rfl, rfl⟩ ?_
        clear hres h0
        rintro rk t L ⟨k, s, rfl, hbf, hinv, hks, hs0, rfl, rfl⟩
        have hsl := hinv.len
        by_cases hkl : k < s.1.length
        · obtain ⟨f, hf⟩ : ∃ f, n - k = f + 1 := ⟨n - k - 1, by omega⟩
          rw [hf] at hbf
          simp only [bfs] at hbf
          rw [if_pos hkl, show f = n - (k + 1) by omega] at hbf
          have hxm : s.1.getD k 0 ∈ s.1 := getD_mem' hkl
          have hxn := hinv.lt _ hxm
          have rc := fun X => clb_rd (m := m1) (x := some { cells := bv (tabB s.2 n) }) (X := X) hkl
          obtain ⟨x, hx⟩ : ∃ x, s.1.getD k 0 = x := ⟨_, rfl⟩
          rw [hx] at rc hxn hbf
          obtain ⟨w, y1, y2⟩ := t6 x hxn
          obtain ⟨ra, ro, z1, z2, z3⟩ := y2
          obtain ⟨Y, hY⟩ : ∃ Y, (List.range n).filter (adj x) = Y := ⟨_, rfl⟩
          have hYs : selL (adj x) n = nats Y := by rw [← hY]; rfl
          rw [hYs, nats_len] at z1
          rw [hYs] at z3
          have hYn : ∀ p, p < Y.length → Y.getD p 0 < n ∧ adj x (Y.getD p 0) = true := fun p hp => by
            have := getD_mem' hp
            rw [← hY, List.mem_filter, List.mem_range] at this
            rw [← hY]; exact this
          have hYl : Y.length ≤ n := by rw [← hY]; exact Nat.le_trans (List.length_filter_le _ _) (by simp)
          rw [← scn_filter, hY] at hbf
          (repeat (first | (with_reducible refine AWo.cons ?_) | ((with_reducible refine Step.id ?_); first | ((with_reducible apply Step.move); exact rfl; exact rfl) | ((with_reducible apply Step.load); exact rfl; (focus (decide +kernel)); exact rfl; (focus (first | exact rc _ | exact t3.old _ | exact y1.old _))) | ((with_reducible apply Step.ix1z); exact rfl; (focus (first | assumption | exact Sl.mk (by omega))); exact rfl; (focus (decide +kernel)); exact rfl; (focus (omega))) | ((with_reducible apply Step.field (k := 1)); exact rfl; (focus (decide +kernel)); exact rfl) | ((with_reducible apply Step.lss); exact rfl; exact rfl; exact rfl) | ((with_reducible apply Step.len); exact rfl; (focus (first | assumption | exact Sl.mk (by omega))); (focus (decide +kernel)); exact rfl) | ((with_reducible apply Step.nilp); exact rfl; exact rfl)) | (with_reducible refine AWo.nil ?_) | ((with_reducible apply AW.seq)) | ((with_reducible apply Then.n)) | ((with_reducible apply AW.regL)) | ((with_reducible apply AW.block)) | ((with_reducible apply AW.drawL fit); (focus (decide +kernel))) | ((with_reducible apply AW.skip)) | ((with_reducible apply AW.condT); exact rfl; (focus ((simp only [decide_eq_true_eq, decide_eq_false_iff_not, Bool.not_eq_true', Bool.not_eq_false', Bool.not_true, Bool.not_false]; first | assumption | omega))))))
          refine AW.loopT (fun rk t L => ∃ (p : Nat) (s' : BS), rk = Y.length - p ∧ p ≤ Y.length ∧ scn adj x (Y.drop p) s' = scn adj x Y s ∧ BInv n S s' ∧ k < s'.1.length ∧ L = [some { cells := bv (tabB s'.2 n) }, clb s'.1] ∧ t = [(8, .pointer (some ⟨a, 0, none⟩)), (9, .slice (some ⟨m1.length + 0, 0, none⟩) n n), (12, .int .i64 (d : Nat)), (14, .slice (some ⟨m1.length + 1, 0, none⟩) s'.1.length s'.1.length), (15, .int .i64 (k : Nat)), (62, .slice (some ⟨m1.length + 0, 0, none⟩) n n), (63, .int .i64 (n : Nat)), (64, .int .i64 (i : Nat)), (91, w), (92, .int .i64 (Y.length : Nat)), (93, .int .i64 (p : Nat))])
            ⟨_, _, _, (Or.inl ⟨rfl, (by repeat (first | exact trivial | (refine And.intro rfl ?_)))⟩), 0, s, rfl, Nat.zero_le _, by rw [List.drop_zero], hinv, hkl, rfl, rfl⟩ ?_
          rintro rk t L ⟨p, s', rfl, hp', hsc, hinv', hkl', rfl, rfl⟩
          rcases Nat.lt_or_ge p Y.length with hpl | hpg
          · have qp := z3 p (by rw [nats_len]; exact hpl)
            rw [nats_get] at qp
            obtain ⟨hjn, hadj⟩ := hYn p hpl
            have hdr : Y.drop p = Y.getD p 0 :: Y.drop (p + 1) := by rw [List.drop_eq_getElem_cons hpl]; simp [hpl]
            rw [hdr] at hsc
            simp only [scn] at hsc
            generalize Y.getD p 0 = j at *
            have rs : ∀ T : AM, Rd (m1 ++ (some { cells := bv (tabB s'.2 n) } :: T)) (m1.length + 0) j (.bool (s'.2 j)) := fun T => by rw [← tabB_get s'.2 hjn]; exact Rd.new rfl (bv_get (by simpa using hjn))
            cases hsj : s'.2 j with
            | true =>
              rw [hsj] at rs
              rw [if_neg (by rw [hsj]; simp)] at hsc
              (repeat (first | (with_reducible refine AWo.cons ?_) | ((with_reducible refine Step.id ?_); first | ((with_reducible apply Step.move); exact rfl; exact rfl) | ((with_reducible apply Step.assign); exact rfl; exact rfl) | ((with_reducible apply Step.load); exact rfl; (focus (decide +kernel)); exact rfl; (focus (first | exact qp.old _ | exact rs _))) | ((with_reducible apply Step.ix1z); exact rfl; (focus (exact Sl.mk (by omega))); exact rfl; (focus (decide +kernel)); exact rfl; (focus (omega))) | ((with_reducible apply Step.ix1); exact rfl; (focus (assumption)); exact rfl; (focus (decide +kernel)); exact rfl; (focus (omega))) | ((with_reducible apply Step.add); exact rfl; exact rfl; (focus (omega)); exact rfl) | ((with_reducible apply Step.lss); exact rfl; exact rfl; exact rfl) | ((with_reducible apply Step.not); exact rfl; exact rfl)) | (with_reducible refine AWo.nil ?_) | ((with_reducible apply AW.seq)) | ((with_reducible apply Then.n)) | ((with_reducible apply AW.regL)) | ((with_reducible apply AW.block)) | ((with_reducible apply InBlk.n)) | ((with_reducible apply AW.skip)) | ((with_reducible apply AW.condT); exact rfl; (focus ((simp only [decide_eq_true_eq, decide_eq_false_iff_not, Bool.not_eq_true', Bool.not_eq_false', Bool.not_true, Bool.not_false]; first | assumption | omega)))) | ((with_reducible apply AW.condF); exact rfl; (focus (rfl)))))
              exact ⟨_, _, [some { cells := bv (tabB s'.2 n) }, clb s'.1], by omega, (Or.inl ⟨rfl, (by repeat (first | exact trivial | (refine And.intro rfl ?_)))⟩), p + 1, s', rfl, by omega, hsc, hinv', hkl', rfl, rfl⟩
            | false =>
              rw [hsj] at rs
              rw [if_pos ⟨hsj, hadj⟩] at hsc
              have hinv2 : BInv n S (s'.1 ++ [j], up s'.2 j true) := by
                have := (scn_inv (adj := fun _ _ => true) (x := 0) (js := [j]) (S := S) (s := s') (fun y hy => by rw [List.mem_singleton] at hy; omega) hinv').1
                simp only [scn] at this
                rw [if_pos ⟨hsj, trivial⟩] at this
                exact this
              have hl' := hinv'.len
              have hsn := clb_snoc (T := s'.1) (j := j) (by omega)
              have hc1 : (iv (nats s'.1)).length = s'.1.length * 1 := by rw [iv_len, nats_len, Nat.mul_one]
              have hc2 : (iv (nats s'.1)).length = s'.1.length := by rw [iv_len, nats_len]
              have hg0 : ∀ v ∈ iv (nats s'.1) ++ [Value.int .i64 ((j : Nat) : Int)], g0 v = true := fun v hv => by
                rcases List.mem_append.1 hv with h | h
                · exact g0_iv _ v h
                · obtain rfl : v = Value.int .i64 ((j : Nat) : Int) := by simpa using h
                  rfl
              by_cases hone : s'.1.length = 1
              · rw [clb_one hone] at *
                (repeat (first | (with_reducible refine AWo.cons ?_) | ((with_reducible refine Step.id ?_); first | ((with_reducible apply Step.move); exact rfl; exact rfl) | ((with_reducible apply Step.assign); exact rfl; exact rfl) | ((with_reducible apply Step.load); exact rfl; (focus (decide +kernel)); exact rfl; (focus (first | exact qp.old _ | exact rs _))) | ((with_reducible apply Step.ix1z); exact rfl; (focus (exact Sl.mk (by omega))); exact rfl; (focus (decide +kernel)); exact rfl; (focus (omega))) | ((with_reducible apply Step.ix1); exact rfl; (focus (assumption)); exact rfl; (focus (decide +kernel)); exact rfl; (focus (omega))) | ((with_reducible apply Step.lss); exact rfl; exact rfl; exact rfl) | ((with_reducible apply Step.not); exact rfl; exact rfl) | ((with_reducible apply Step.store (k := 0)); exact rfl; exact rfl; exact rfl; exact rfl; (focus (decide +kernel)); exact rfl; exact rfl; (focus (first | omega | (simp [iv, bv]; done) | (simp [iv, bv]; omega))); (focus (first | (simp only [List.nil_append, List.cons_append, List.set_cons_zero, List.set_cons_succ, iv_set, bv_set, iv_rep, bv_rep]; done) | (simp only [List.nil_append, List.cons_append, List.set_cons_zero, List.set_cons_succ, iv_set, bv_set, iv_rep, bv_rep]; rfl) | rfl))) | ((with_reducible apply Step.buildS 2); exact rfl; exact rfl; exact (fun _ _ => bs27x); exact rfl; (focus (first | (simp only [List.nil_append, List.cons_append, List.set_cons_zero, List.set_cons_succ, iv_set, bv_set, iv_rep, bv_rep]; done) | (simp only [List.nil_append, List.cons_append, List.set_cons_zero, List.set_cons_succ, iv_set, bv_set, iv_rep, bv_rep]; rfl) | rfl)))) | (with_reducible refine AWo.nil ?_) | ((with_reducible apply AW.seq)) | ((with_reducible apply Then.n)) | ((with_reducible apply AW.regL)) | ((with_reducible apply AW.block)) | ((with_reducible apply AW.skip)) | ((with_reducible apply AW.condT); exact rfl; (focus (first | rfl | (simp only [decide_eq_true_eq, decide_eq_false_iff_not, Bool.not_eq_true', Bool.not_eq_false', Bool.not_true, Bool.not_false]; first | assumption | omega))))))
                ((with_reducible apply Step.appO (k := 3) (q := 1) (r := 2)); exact rfl; exact rfl; exact rfl; exact el27; exact un27; exact rfl; exact hc2; exact rfl; exact rfl; (focus (omega)); exact rfl; (focus (first | (simp only [List.nil_append, List.cons_append, List.set_cons_zero, List.set_cons_succ, iv_set, bv_set, iv_rep, bv_rep]; done) | (simp only [List.nil_append, List.cons_append, List.set_cons_zero, List.set_cons_succ, iv_set, bv_set, iv_rep, bv_rep]; rfl) | rfl)))
                (repeat (first | (with_reducible refine AWo.cons ?_) | ((with_reducible refine Step.id ?_); first | ((with_reducible apply Step.move); exact rfl; exact rfl) | ((with_reducible apply Step.assign); exact rfl; exact rfl) | ((with_reducible apply Step.add); exact rfl; exact rfl; (focus (omega)); exact rfl)) | (with_reducible refine AWo.nil ?_) | ((with_reducible apply Then.n)) | ((with_reducible apply AW.regL)) | ((with_reducible apply InBlk.n))))
                refine ⟨_, [(8, .pointer (some ⟨a, 0, none⟩)), (9, .slice (some ⟨m1.length + 0, 0, none⟩) n n), (12, .int .i64 (d : Nat)), (14, .slice (some ⟨m1.length + 1, 0, none⟩) (s'.1.length + 1) (s'.1.length + 1)), (15, .int .i64 (k : Nat)), (62, .slice (some ⟨m1.length + 0, 0, none⟩) n n), (63, .int .i64 (n : Nat)), (64, .int .i64 (i : Nat)), (91, w), (92, .int .i64 (Y.length : Nat)), (93, .int .i64 ((p + 1 : Nat) : Int))], [some { cells := bv (tabB (up s'.2 j true) n) }, some { cells := iv (nats s'.1) ++ [.int .i64 (j : Nat)], kind := .grow, size := 1 }], by omega, by rw [tabB_set]; exact (Back.mv 1 3 rfl rfl rfl rfl (by intro j b hj h; rcases j with _ | _ | _ | _ | _ | _ | j <;> simp_all) (by repeat (first | exact CellsOk.nil | refine CellsOk.cons (by first | assumption | exact g0_bv _) ?_)) (by repeat (first | exact trivial | (refine And.intro ⟨_, rfl, by (first | exact Low.ne (by assumption) (by simp) | exact .int _ _ | exact Ren.slice_mv (by first | (simp; done) | omega | (simp; omega)) | exact Ren.slice_ne (by first | (simp; done) | omega | (simp; omega)) (by omega) | exact Ren.of_sl_ne (by assumption) (by first | omega | (simp; omega)) (by first | omega | (simp; omega)))⟩ ?_)))), p + 1, (s'.1 ++ [j], up s'.2 j true), rfl, by omega, hsc, hinv2, by simp; omega, by rw [hsn], by simp⟩
              · rw [clb_more hone (by omega)] at *
                (repeat (first | (with_reducible refine AWo.cons ?_) | ((with_reducible refine Step.id ?_); first | ((with_reducible apply Step.move); exact rfl; exact rfl) | ((with_reducible apply Step.assign); exact rfl; exact rfl) | ((with_reducible apply Step.load); exact rfl; (focus (decide +kernel)); exact rfl; (focus (first | exact qp.old _ | exact rs _))) | ((with_reducible apply Step.ix1z); exact rfl; (focus (exact Sl.mk (by omega))); exact rfl; (focus (decide +kernel)); exact rfl; (focus (omega))) | ((with_reducible apply Step.ix1); exact rfl; (focus (assumption)); exact rfl; (focus (decide +kernel)); exact rfl; (focus (omega))) | ((with_reducible apply Step.lss); exact rfl; exact rfl; exact rfl) | ((with_reducible apply Step.not); exact rfl; exact rfl) | ((with_reducible apply Step.store (k := 0)); exact rfl; exact rfl; exact rfl; exact rfl; (focus (decide +kernel)); exact rfl; exact rfl; (focus (first | omega | (simp [iv, bv]; done) | (simp [iv, bv]; omega))); (focus (first | (simp only [List.nil_append, List.cons_append, List.set_cons_zero, List.set_cons_succ, iv_set, bv_set, iv_rep, bv_rep]; done) | (simp only [List.nil_append, List.cons_append, List.set_cons_zero, List.set_cons_succ, iv_set, bv_set, iv_rep, bv_rep]; rfl) | rfl))) | ((with_reducible apply Step.buildS 2); exact rfl; exact rfl; exact (fun _ _ => bs27x); exact rfl; (focus (first | (simp only [List.nil_append, List.cons_append, List.set_cons_zero, List.set_cons_succ, iv_set, bv_set, iv_rep, bv_rep]; done) | (simp only [List.nil_append, List.cons_append, List.set_cons_zero, List.set_cons_succ, iv_set, bv_set, iv_rep, bv_rep]; rfl) | rfl)))) | (with_reducible refine AWo.nil ?_) | ((with_reducible apply AW.seq)) | ((with_reducible apply Then.n)) | ((with_reducible apply AW.regL)) | ((with_reducible apply AW.block)) | ((with_reducible apply AW.skip)) | ((with_reducible apply AW.condT); exact rfl; (focus (first | rfl | (simp only [decide_eq_true_eq, decide_eq_false_iff_not, Bool.not_eq_true', Bool.not_eq_false', Bool.not_true, Bool.not_false]; first | assumption | omega))))))
                ((with_reducible apply Step.appG (k := 3) (q := 1) (r := 2) (n := s'.1.length)); exact rfl; (focus (rw [gv_pos (by omega)]; rfl)); exact rfl; exact el27; exact un27; exact rfl; exact rfl; exact rfl; exact hc1; exact rfl; exact rfl; exact rfl; (focus (omega)); exact rfl; (focus (first | (simp only [List.nil_append, List.cons_append, List.set_cons_zero, List.set_cons_succ, iv_set, bv_set, iv_rep, bv_rep]; done) | (simp only [List.nil_append, List.cons_append, List.set_cons_zero, List.set_cons_succ, iv_set, bv_set, iv_rep, bv_rep]; rfl) | rfl)))
                (repeat (first | (with_reducible refine AWo.cons ?_) | ((with_reducible refine Step.id ?_); first | ((with_reducible apply Step.move); exact rfl; exact rfl) | ((with_reducible apply Step.assign); exact rfl; exact rfl) | ((with_reducible apply Step.add); exact rfl; exact rfl; (focus (omega)); exact rfl)) | (with_reducible refine AWo.nil ?_) | ((with_reducible apply Then.n)) | ((with_reducible apply AW.regL)) | ((with_reducible apply InBlk.n))))
                refine ⟨_, [(8, .pointer (some ⟨a, 0, none⟩)), (9, .slice (some ⟨m1.length + 0, 0, none⟩) n n), (12, .int .i64 (d : Nat)), (14, .slice (some ⟨m1.length + 1, 0, none⟩) (s'.1.length + 1) (s'.1.length + 1)), (15, .int .i64 (k : Nat)), (62, .slice (some ⟨m1.length + 0, 0, none⟩) n n), (63, .int .i64 (n : Nat)), (64, .int .i64 (i : Nat)), (91, w), (92, .int .i64 (Y.length : Nat)), (93, .int .i64 ((p + 1 : Nat) : Int))], [some { cells := bv (tabB (up s'.2 j true) n) }, some { cells := iv (nats s'.1) ++ [.int .i64 (j : Nat)], kind := .grow, size := 1 }], by omega, by rw [tabB_set]; exact (Back.mv 1 3 rfl rfl rfl rfl (by intro j b hj h; rcases j with _ | _ | _ | _ | _ | _ | j <;> simp_all) (by repeat (first | exact CellsOk.nil | refine CellsOk.cons (by first | assumption | exact g0_bv _) ?_)) (by repeat (first | exact trivial | (refine And.intro ⟨_, rfl, by (first | exact Low.ne (by assumption) (by simp) | exact .int _ _ | exact Ren.slice_mv (by first | (simp; done) | omega | (simp; omega)) | exact Ren.slice_ne (by first | (simp; done) | omega | (simp; omega)) (by omega) | exact Ren.of_sl_ne (by assumption) (by first | omega | (simp; omega)) (by first | omega | (simp; omega)))⟩ ?_)))), p + 1, (s'.1 ++ [j], up s'.2 j true), rfl, by omega, hsc, hinv2, by simp; omega, by rw [hsn], by simp⟩
          · obtain rfl : p = Y.length := by omega
            rw [List.drop_eq_nil_of_le (Nat.le_refl _)] at hsc
            simp only [scn] at hsc
            rw [← hsc] at hbf
            have hl' := hinv'.len
            (repeat (first | (with_reducible refine AWo.cons ?_) | ((with_reducible refine Step.id ?_); first | ((with_reducible apply Step.move); exact rfl; exact rfl) | ((with_reducible apply Step.assign); exact rfl; exact rfl) | ((with_reducible apply Step.add); exact rfl; exact rfl; (focus (omega)); exact rfl) | ((with_reducible apply Step.lss); exact rfl; exact rfl; exact rfl)) | (with_reducible refine AWo.nil ?_) | ((with_reducible apply AW.seq)) | ((with_reducible apply Then.n)) | ((with_reducible apply AW.regL)) | ((with_reducible apply AW.exit)) | ((with_reducible apply InBlk.n)) | ((with_reducible apply InBlk.hit)) | ((with_reducible apply Then.e)) | ((with_reducible apply AW.condF); exact rfl; (focus ((simp only [decide_eq_true_eq, decide_eq_false_iff_not, Bool.not_eq_true', Bool.not_eq_false', Bool.not_true, Bool.not_false]; first | assumption | omega))))))
            exact ⟨_, [(8, .pointer (some ⟨a, 0, none⟩)), (9, .slice (some ⟨m1.length + 0, 0, none⟩) n n), (12, .int .i64 (d : Nat)), (14, .slice (some ⟨m1.length + 1, 0, none⟩) s'.1.length s'.1.length), (15, .int .i64 ((k + 1 : Nat) : Int)), (62, .slice (some ⟨m1.length + 0, 0, none⟩) n n), (63, .int .i64 (n : Nat)), (64, .int .i64 (i : Nat))], [some { cells := bv (tabB s'.2 n) }, clb s'.1], by omega, (Or.inl ⟨rfl, (by repeat (first | exact trivial | (refine And.intro rfl ?_)))⟩), k + 1, s', rfl, hbf, hinv', by omega, by omega, rfl, rfl⟩
        · rw [bfs_end hkl] at hbf
          subst hbf
          have e2 : ((s.1.length : Nat) : Int) % 2 = ((s.1.length % 2 : Nat) : Int) := by omega
          (repeat (first | (with_reducible refine AWo.cons ?_) | ((with_reducible refine Step.id ?_); first | ((with_reducible apply Step.move); exact rfl; exact rfl) | ((with_reducible apply Step.assign); exact rfl; exact rfl) | ((with_reducible apply Step.add); exact rfl; exact rfl; (focus (omega)); exact rfl) | ((with_reducible apply Step.lss); exact rfl; exact rfl; exact rfl) | ((with_reducible apply Step.rem); exact rfl; exact rfl; (focus (omega)); (focus (omega)); exact rfl) | ((with_reducible apply Step.len); exact rfl; (focus (exact Sl.mk (by omega))); (focus (decide +kernel)); exact rfl)) | (with_reducible refine AWo.nil ?_) | ((with_reducible apply AW.seq)) | ((with_reducible apply Then.n)) | ((with_reducible apply AW.regL)) | ((with_reducible apply AW.exit)) | ((with_reducible apply InBlk.n)) | ((with_reducible apply InBlk.hit)) | ((with_reducible apply Then.e)) | ((with_reducible apply AW.condF); exact rfl; (focus ((simp only [decide_eq_true_eq, decide_eq_false_iff_not, Bool.not_eq_true', Bool.not_eq_false', Bool.not_true, Bool.not_false]; first | assumption | omega))))))
          refine ⟨_, [(8, .pointer (some ⟨a, 0, none⟩)), (9, .slice (some ⟨m1.length + 0, 0, none⟩) n n), (12, .int .i64 ((d : Nat) + ((s.1.length : Nat) : Int) % 2)), (62, .slice (some ⟨m1.length + 0, 0, none⟩) n n), (63, .int .i64 (n : Nat)), (64, .int .i64 ((i + 1 : Nat) : Int))], [some { cells := bv (tabB s.2 n) }], by omega, (Back.trim rfl rfl (by repeat (first | exact CellsOk.nil | refine CellsOk.cons (by exact g0_bv _) ?_)) (by repeat (first | exact trivial | (refine And.intro ⟨rfl, by (first | exact Low.rid (by assumption) (by simp) | exact .int _ _ | exact .slice _ _ _ _ (by first | (simp; done) | omega | (simp; omega)))⟩ ?_)))), i + 1, d + s.1.length % 2, s.2, rfl, by omega, hod', rfl, by rw [e2, Int.natCast_add d]⟩
    · obtain rfl : i = n := by omega
      rw [hod]
      (repeat (first | (with_reducible refine AWo.cons ?_) | ((with_reducible refine Step.id ?_); first | ((with_reducible apply Step.move); exact rfl; exact rfl) | ((with_reducible apply Step.assign); exact rfl; exact rfl) | ((with_reducible apply Step.lss); exact rfl; exact rfl; exact rfl)) | (with_reducible refine AWo.nil ?_) | ((with_reducible apply AW.seq)) | ((with_reducible apply Then.n)) | ((with_reducible apply AW.regL)) | ((with_reducible apply AW.exit)) | ((with_reducible apply InBlk.hit)) | ((with_reducible apply Then.e)) | ((with_reducible apply AW.condF); exact rfl; (focus ((simp only [decide_eq_true_eq, decide_eq_false_iff_not, Bool.not_eq_true', Bool.not_eq_false', Bool.not_true, Bool.not_false]; first | assumption | omega))))))
      (refine AW.ret ?_; (repeat (first | refine Then.r ?_ | refine InBlk.r ?_)))
      obtain ⟨N, rfl⟩ := hMN
      exact ⟨_, rfl, rfl, _, by rw [List.append_assoc]⟩
end Go.Proofs.Ytajpngnphbdnnaa.Abs
