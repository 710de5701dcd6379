/- Proved here: what the proof of PairPrices rests on, part 4 of 5. Conditions: those that each theorem names. -/
import Derived.Test.YtajpngnphbdnnaaPairPricesK3
namespace Go.Proofs.Ytajpngnphbdnnaa.Abs
set_option linter.unusedSimpArgs false
set_option linter.unusedVariables false
open Go.RowKit
open Go.Proofs.Ytajpngnphbdnnaa.Sim
open Go.Proofs
theorem ze24 : zeroB Try.prog 24 = some #[.int .i64 0, .int .i64 0, .int .i64 0, .int .i64 0] := by kernel_rfl
theorem el31 : elemB Try.prog 31 = some (33, 4, 32, #[.int .i64 0, .int .i64 0, .int .i64 0, .int .i64 0]) := by kernel_rfl
theorem un31 : Try.prog.underlying 31 = some (.slice 33) := by kernel_rfl
theorem bs31 {m : AM} {n : Nat} {x : Gl} : abuildSlice Try.prog m n 31 1 [(0, x.v)] = some (.slice (some ⟨n, 0, none⟩) 1 1, m.set n (some { cells := x.cells })) := by cases x; kernel_rfl
def glC (j : List Gl) : List Value := j.flatMap Gl.cells
theorem glC_len (j : List Gl) : (glC j).length = j.length * 4 := by
  induction j with
  | nil => rfl
  | cons x j ih => simp only [glC, List.flatMap_cons, List.length_append] at ih ⊢; rw [ih]; simp [Gl.cells]; omega
theorem g0_glC (j : List Gl) : ∀ v ∈ glC j, g0 v = true := fun v hv => by
  obtain ⟨x, _, hx⟩ := List.mem_flatMap.1 hv
  simp [Gl.cells] at hx
  rcases hx with rfl | rfl | rfl | rfl <;> rfl
theorem glC_snoc (j : List Gl) (k : Nat) (h : k < j.length) : glC (j.take (k + 1)) = glC (j.take k) ++ (j.getD k default).cells := by
  rw [take_snoc j k default h]; simp [glC]
theorem glC_get (j : List Gl) : ∀ (k : Nat), k < j.length → ∀ (i : Nat) (v : Value), (j.getD k default).cells[i]? = some v → (glC j)[k * 4 + i]? = some v := by
  induction j with
  | nil => intro k h; simp at h
  | cons x j ih =>
    intro k h i v hi
    have hc : x.cells.length = 4 := rfl
    simp only [glC, List.flatMap_cons]
    cases k with
    | zero =>
      have : i < 4 := by
        have := (List.getElem?_eq_some_iff.1 hi).1
        simpa [Gl.cells] using this
      rw [List.getElem?_append_left (by omega)]
      simpa using hi
    | succ k =>
      rw [List.getElem?_append_right (by omega), hc, show (k + 1) * 4 + i - 4 = k * 4 + i by omega]
      exact ih k (by simpa using h) i v (by simpa using hi)
theorem gls_new {M L : AM} {k : Nat} {j : List Gl} (hk : k < L.length) (h : L[k]? = some (gb (glC j) 4)) : Gls (M ++ L) (gv (M.length + k) j.length) j := by
  refine ⟨M.length + k, 0, gv_sl _ _, by simp; omega, fun i hi => ?_⟩
  have hp : 0 < (glC j).length := by rw [glC_len]; omega
  rw [gb_pos hp] at h
  refine ⟨_, by rw [get_app]; exact h, fun q v hq => ?_⟩
  rw [Nat.zero_add]; exact glC_get j i hi q v hq
set_option maxRecDepth 100000 in
theorem lside_ok {m : AM} {v : Value} {j : List Gl} (hj : Gls m v j) (hlen : j.length ≤ 9223372036854775807) : ACall Try.prog 21 #[v] m (NewG (glC (j.take 34)) 4 (j.take 34).length m) := by
  obtain ⟨a, o, h1, h2, h3⟩ := hj
  refine ACall.start Try.func21 rfl rfl ?_
  (repeat (first | (with_reducible refine AWo.cons ?_) | ((with_reducible refine Step.id ?_); first | ((with_reducible apply Step.move); exact rfl; exact rfl) | ((with_reducible apply Step.assign); exact rfl; exact rfl) | ((with_reducible apply Step.len); exact rfl; (focus (assumption)); (focus (decide +kernel)); exact rfl)) | (with_reducible refine AWo.nil ?_) | ((with_reducible apply AW.seq)) | ((with_reducible apply Then.n)) | ((with_reducible apply AW.regL)) | ((with_reducible apply AW.block))))
  refine AW.loopT (fun n t L => ∃ k : Nat, n = j.length - k ∧ k ≤ j.length ∧ k ≤ 34 ∧ L = [gb (glC (j.take k)) 4] ∧
    t = [(3, gv (m.length + 0) k), (6, v), (7, .int .i64 (j.length : Nat)), (8, .int .i64 (k : Nat))]) ⟨_, _, _, Back.pad (by repeat (first | exact trivial | (refine And.intro ⟨rfl, by (first | exact .int _ _ | exact Ren.of_gv (by first | (simp; done) | omega | (simp; omega)) | exact Ren.of_sl (by assumption) (by first | omega | (simp; omega)))⟩ ?_))) CellsOk.nil, 0, rfl, Nat.zero_le _, Nat.zero_le _, rfl, rfl⟩ ?_
  rintro n t L ⟨k, rfl, hk, hk2, rfl, rfl⟩
  have fin : ∀ i, i = k → (k = j.length ∨ k = 34) → (gv (m.length + 0) k = gv (m.length + 0) (j.take 34).length ∧ glC (j.take k) = glC (j.take 34)) := fun i _ h => by
    rcases h with h | h
    · subst h
      rw [List.take_of_length_le (show j.length ≤ 34 by omega), List.take_of_length_le (Nat.le_refl _)]; exact ⟨rfl, rfl⟩
    · subst h
      exact ⟨by rw [List.length_take, Nat.min_eq_left hk], rfl⟩
  have g0c := g0_glC (j.take k)
  rcases Nat.lt_or_ge k j.length with hlt | hge
  · by_cases hk3 : (33 : Int) < (k : Int)
    · (repeat (first | (with_reducible refine AWo.cons ?_) | ((with_reducible refine Step.id ?_); first | ((with_reducible apply Step.move); exact rfl; exact rfl) | ((with_reducible apply Step.assign); exact rfl; exact rfl) | ((with_reducible apply Step.loadL (n := 4)); exact rfl; (focus (decide +kernel)); (focus (decide +kernel)); exact rfl; (focus (exact RdL.old _ (h3 _ hlt))); exact rfl; exact rfl) | ((with_reducible apply Step.ix (s := 4)); exact rfl; (focus (assumption)); exact rfl; (focus (decide +kernel)); exact rfl; (focus (omega))) | ((with_reducible apply Step.lss); exact rfl; exact rfl; exact rfl) | ((with_reducible apply Step.gtr); exact rfl; exact rfl; exact rfl) | ((with_reducible apply Step.alloc 1); exact rfl; exact ze24; exact rfl; (focus (first | (simp only [List.nil_append, List.cons_append, List.set_cons_zero, List.set_cons_succ, iv_set, bv_set, iv_rep, bv_rep]; done) | (simp only [List.nil_append, List.cons_append, List.set_cons_zero, List.set_cons_succ, iv_set, bv_set, iv_rep, bv_rep]; rfl) | rfl))) | ((with_reducible apply Step.storeA (k := 1) (n := 4)); exact rfl; exact rfl; exact rfl; exact rfl; (focus (decide +kernel)); exact rfl; (focus (kernel_rfl)); exact rfl; (focus (first | (simp only [List.nil_append, List.cons_append, List.set_cons_zero, List.set_cons_succ, iv_set, bv_set, iv_rep, bv_rep]; done) | (simp only [List.nil_append, List.cons_append, List.set_cons_zero, List.set_cons_succ, iv_set, bv_set, iv_rep, bv_rep]; rfl) | rfl)))) | (with_reducible refine AWo.nil ?_) | ((with_reducible apply AW.seq)) | ((with_reducible apply Then.n)) | ((with_reducible apply AW.regL)) | ((with_reducible apply AW.block)) | ((with_reducible apply AW.exit)) | ((with_reducible apply InBlk.hit)) | ((with_reducible apply InBlk.miss); exact rfl) | ((with_reducible apply Then.e)) | ((with_reducible apply AW.skip)) | ((with_reducible apply AW.condT); exact rfl; (focus ((simp only [decide_eq_true_eq, decide_eq_false_iff_not, Bool.not_eq_true', Bool.not_eq_false', Bool.not_true, Bool.not_false]; first | assumption | omega))))))
      refine AW.retB (l := [(2, _)]) (L1 := [gb (glC (j.take k)) 4]) (Back.trim rfl rfl (by repeat (first | exact CellsOk.nil | refine CellsOk.gb (by assumption) ?_)) (by repeat (first | exact trivial | (refine And.intro ⟨rfl, by (exact Ren.of_gv (by first | (simp; done) | omega | (simp; omega)))⟩ ?_)))) ?_
      obtain ⟨e1, e2⟩ := fin k rfl (.inr (by omega))
      exact ⟨_, rfl, by rw [e1], by rw [e2]⟩
    · have hl := glC_len (j.take k)
      have hlk : (j.take k).length = k := by simp; omega
      rw [hlk] at hl
      have ts := glC_snoc j k hlt
      have g0n := g0_glC (j.take (k + 1))
      (repeat (first | (with_reducible refine AWo.cons ?_) | ((with_reducible refine Step.id ?_); first | ((with_reducible apply Step.move); exact rfl; exact rfl) | ((with_reducible apply Step.assign); exact rfl; exact rfl) | ((with_reducible apply Step.loadL (n := 4)); exact rfl; (focus (decide +kernel)); (focus (decide +kernel)); exact rfl; (focus (first | exact RdL.new rfl rfl | exact RdL.old _ (h3 _ hlt))); exact rfl; exact rfl) | ((with_reducible apply Step.ix (s := 4)); exact rfl; (focus (assumption)); exact rfl; (focus (decide +kernel)); exact rfl; (focus (omega))) | ((with_reducible apply Step.lss); exact rfl; exact rfl; exact rfl) | ((with_reducible apply Step.gtr); exact rfl; exact rfl; exact rfl) | ((with_reducible apply Step.callR fit); exact rfl; exact Try.func29; exact rfl; exact rfl; exact (glove_ok _)) | ((with_reducible apply Step.alloc 1); exact rfl; exact ze24; exact rfl; (focus (first | (simp only [List.nil_append, List.cons_append, List.set_cons_zero, List.set_cons_succ, iv_set, bv_set, iv_rep, bv_rep]; done) | (simp only [List.nil_append, List.cons_append, List.set_cons_zero, List.set_cons_succ, iv_set, bv_set, iv_rep, bv_rep]; rfl) | rfl))) | ((with_reducible apply Step.storeA (k := 1) (n := 4)); exact rfl; exact rfl; exact rfl; exact rfl; (focus (decide +kernel)); exact rfl; (focus (kernel_rfl)); exact rfl; (focus (first | (simp only [List.nil_append, List.cons_append, List.set_cons_zero, List.set_cons_succ, iv_set, bv_set, iv_rep, bv_rep]; done) | (simp only [List.nil_append, List.cons_append, List.set_cons_zero, List.set_cons_succ, iv_set, bv_set, iv_rep, bv_rep]; rfl) | rfl))) | ((with_reducible apply Step.buildS 2); exact rfl; exact rfl; exact (fun _ _ => bs31); exact rfl; (focus (first | (simp only [List.nil_append, List.cons_append, List.set_cons_zero, List.set_cons_succ, iv_set, bv_set, iv_rep, bv_rep]; done) | (simp only [List.nil_append, List.cons_append, List.set_cons_zero, List.set_cons_succ, iv_set, bv_set, iv_rep, bv_rep]; rfl) | rfl)))) | (with_reducible refine AWo.nil ?_) | ((with_reducible apply AW.seq)) | ((with_reducible apply Then.n)) | ((with_reducible apply AW.regL)) | ((with_reducible apply AW.block)) | ((with_reducible apply AW.skip)) | ((with_reducible apply AW.condT); exact rfl; (focus ((simp only [decide_eq_true_eq, decide_eq_false_iff_not, Bool.not_eq_true', Bool.not_eq_false', Bool.not_true, Bool.not_false]; first | assumption | omega)))) | ((with_reducible apply AW.condF); exact rfl; (focus ((simp only [decide_eq_true_eq, decide_eq_false_iff_not, Bool.not_eq_true', Bool.not_eq_false', Bool.not_true, Bool.not_false]; first | assumption | omega))))))
      ((with_reducible apply Step.appG (k := 3)); exact rfl; exact rfl; exact rfl; exact el31; exact un31; exact rfl; exact rfl; exact rfl; exact hl; exact rfl; exact rfl; exact rfl; (focus (omega)); exact rfl; (focus (first | (simp only [List.nil_append, List.cons_append, List.set_cons_zero, List.set_cons_succ, iv_set, bv_set, iv_rep, bv_rep]; done) | (simp only [List.nil_append, List.cons_append, List.set_cons_zero, List.set_cons_succ, iv_set, bv_set, iv_rep, bv_rep]; rfl) | rfl)))
      (repeat (first | (with_reducible refine AWo.cons ?_) | ((with_reducible refine Step.id ?_); first | ((with_reducible apply Step.move); exact rfl; exact rfl) | ((with_reducible apply Step.assign); exact rfl; exact rfl) | ((with_reducible apply Step.add); exact rfl; exact rfl; (focus (omega)); exact rfl)) | (with_reducible refine AWo.nil ?_) | ((with_reducible apply Then.n)) | ((with_reducible apply AW.regL)) | ((with_reducible apply InBlk.n))))
      rw [ts] at g0n
      refine ⟨_, [(3, .slice (some ⟨m.length + 0, 0, none⟩) (k + 1) (k + 1)), (6, v), (7, .int .i64 (j.length : Nat)), (8, .int .i64 (k + 1 : Nat))], [some { cells := glC (j.take k) ++ (j.getD k default).cells, kind := .grow, size := 4 }], by omega, (Back.mv 0 3 rfl rfl rfl rfl (by intro j b hj h; rcases j with _ | _ | _ | _ | _ | _ | j <;> simp_all) (by repeat (first | exact CellsOk.nil | refine CellsOk.cons (by assumption) ?_)) (by repeat (first | exact trivial | (refine And.intro ⟨_, rfl, by (first | exact .int _ _ | exact Ren.slice_mv (by first | (simp; done) | omega | (simp; omega)) | exact Ren.of_sl_ne (by assumption) (by first | omega | (simp; omega)) (by first | omega | (simp; omega)))⟩ ?_)))), k + 1, rfl, by omega, by omega, ?_, ?_⟩
      · rw [ts, gb_pos (by simp [Gl.cells])]
      · rw [gv_pos (by omega)]
  · (repeat (first | (with_reducible refine AWo.cons ?_) | ((with_reducible refine Step.id ?_); first | ((with_reducible apply Step.move); exact rfl; exact rfl) | ((with_reducible apply Step.assign); exact rfl; exact rfl) | ((with_reducible apply Step.lss); exact rfl; exact rfl; exact rfl)) | (with_reducible refine AWo.nil ?_) | ((with_reducible apply AW.seq)) | ((with_reducible apply Then.n)) | ((with_reducible apply AW.regL)) | ((with_reducible apply AW.exit)) | ((with_reducible apply InBlk.hit)) | ((with_reducible apply Then.e)) | ((with_reducible apply AW.condF); exact rfl; (focus ((simp only [decide_eq_true_eq, decide_eq_false_iff_not, Bool.not_eq_true', Bool.not_eq_false', Bool.not_true, Bool.not_false]; first | assumption | omega))))))
    refine AW.retB (l := [(2, _)]) (L1 := [gb (glC (j.take k)) 4]) (Back.trim rfl rfl (by repeat (first | exact CellsOk.nil | refine CellsOk.gb (by assumption) ?_)) (by repeat (first | exact trivial | (refine And.intro ⟨rfl, by (exact Ren.of_gv (by first | (simp; done) | omega | (simp; omega)))⟩ ?_)))) ?_
    obtain ⟨e1, e2⟩ := fin k rfl (.inl (by omega))
    exact ⟨_, rfl, by rw [e1], by rw [e2]⟩
/-- A side that the law hands on. -/
theorem take34 (l : List Gl) : sB (l.take 34) = sB l ∧ (sB l = true → l.take 34 = l) := by
  by_cases h : l.length ≤ 34
  · rw [List.take_of_length_le h]; exact ⟨rfl, fun _ => rfl⟩
  · have h1 : sB (l.take 34) = false := by simp [sB]; omega
    have h2 : sB l = false := by simp [sB]; omega
    rw [h1, h2]; exact ⟨rfl, fun h => by cases h⟩
set_option maxRecDepth 100000 in
theorem Side_ok {m : AM} {v : Value} {l : List Gl} (hl : Gls m v l) (hlen : l.length ≤ 9223372036854775807) {b : Bool} (hb : sB l = b) : ACall Try.prog 61 #[v] m (Ret (.bool b) m) := by
  subst hb
  obtain ⟨a, o, h1, h2, h3⟩ := hl
  refine ACall.start Try.func61 rfl rfl ?_
  by_cases hbig : 32 < l.length
  · (repeat (first | (with_reducible refine AWo.cons ?_) | ((with_reducible refine Step.id ?_); first | ((with_reducible apply Step.move); exact rfl; exact rfl) | ((with_reducible apply Step.assign); exact rfl; exact rfl) | ((with_reducible apply Step.gtr); exact rfl; exact rfl; exact rfl) | ((with_reducible apply Step.len); exact rfl; (focus (assumption)); (focus (decide +kernel)); exact rfl)) | (with_reducible refine AWo.nil ?_) | ((with_reducible apply AW.seq)) | ((with_reducible apply Then.n)) | ((with_reducible apply AW.regL)) | ((with_reducible apply AW.condT); exact rfl; (focus ((simp only [decide_eq_true_eq, decide_eq_false_iff_not, Bool.not_eq_true', Bool.not_eq_false', Bool.not_true, Bool.not_false]; first | assumption | omega))))))
    (refine AW.retD (l := [(2, _)]) (by repeat (first | exact trivial | (refine And.intro ⟨rfl, by (exact .bool _)⟩ ?_))) ?_; (repeat (first | refine Then.r ?_ | refine InBlk.r ?_)))
    exact ⟨_, rfl, by simp [sB]; omega, rfl⟩
  · (repeat (first | (with_reducible refine AWo.cons ?_) | ((with_reducible refine Step.id ?_); first | ((with_reducible apply Step.move); exact rfl; exact rfl) | ((with_reducible apply Step.assign); exact rfl; exact rfl) | ((with_reducible apply Step.gtr); exact rfl; exact rfl; exact rfl) | ((with_reducible apply Step.len); exact rfl; (focus (assumption)); (focus (decide +kernel)); exact rfl)) | (with_reducible refine AWo.nil ?_) | ((with_reducible apply AW.seq)) | ((with_reducible apply Then.n)) | ((with_reducible apply AW.regL)) | ((with_reducible apply AW.block)) | ((with_reducible apply AW.skip)) | ((with_reducible apply AW.condF); exact rfl; (focus ((simp only [decide_eq_true_eq, decide_eq_false_iff_not, Bool.not_eq_true', Bool.not_eq_false', Bool.not_true, Bool.not_false]; first | assumption | omega))))))
    refine AW.loopT (fun n t L => ∃ k : Nat, n = l.length - k ∧ k ≤ l.length ∧ (∀ i, i < k → gB (l.getD i default) = true) ∧ L = [] ∧
      t = [(8, v), (9, .int .i64 (l.length : Nat)), (10, .int .i64 (k : Nat))]) ⟨_, _, _, (Or.inl ⟨rfl, (by repeat (first | exact trivial | (refine And.intro rfl ?_)))⟩), 0, rfl, Nat.zero_le _, by omega, rfl, rfl⟩ ?_
    rintro n t L ⟨k, rfl, hk, hz, rfl, rfl⟩
    rcases Nat.lt_or_ge k l.length with hlt | hge
    · have hv := fun T => valid_ok (m := m ++ T) (l.getD k default) rfl
      cases hg : gB (l.getD k default) with
      | true =>
        rw [hg] at hv
        (repeat (first | (with_reducible refine AWo.cons ?_) | ((with_reducible refine Step.id ?_); first | ((with_reducible apply Step.move); exact rfl; exact rfl) | ((with_reducible apply Step.loadL (n := 4)); exact rfl; (focus (decide +kernel)); (focus (decide +kernel)); exact rfl; (focus (first | exact RdL.new rfl rfl | exact RdL.old _ (h3 _ hlt))); exact rfl; exact rfl) | ((with_reducible apply Step.ix (s := 4)); exact rfl; (focus (assumption)); exact rfl; (focus (decide +kernel)); exact rfl; (focus (omega))) | ((with_reducible apply Step.add); exact rfl; exact rfl; (focus (omega)); exact rfl) | ((with_reducible apply Step.lss); exact rfl; exact rfl; exact rfl) | ((with_reducible apply Step.not); exact rfl; exact rfl) | ((with_reducible apply Step.callR fit); exact rfl; exact Try.func67; exact rfl; exact rfl; exact (hv _)) | ((with_reducible apply Step.alloc 0); exact rfl; exact ze24; exact rfl; (focus (first | (simp only [List.nil_append, List.cons_append, List.set_cons_zero, List.set_cons_succ, iv_set, bv_set, iv_rep, bv_rep]; done) | (simp only [List.nil_append, List.cons_append, List.set_cons_zero, List.set_cons_succ, iv_set, bv_set, iv_rep, bv_rep]; rfl) | rfl))) | ((with_reducible apply Step.storeA (k := 0) (n := 4)); exact rfl; exact rfl; exact rfl; exact rfl; (focus (decide +kernel)); exact rfl; (focus (kernel_rfl)); exact rfl; (focus (first | (simp only [List.nil_append, List.cons_append, List.set_cons_zero, List.set_cons_succ, iv_set, bv_set, iv_rep, bv_rep]; done) | (simp only [List.nil_append, List.cons_append, List.set_cons_zero, List.set_cons_succ, iv_set, bv_set, iv_rep, bv_rep]; rfl) | rfl)))) | (with_reducible refine AWo.nil ?_) | ((with_reducible apply AW.seq)) | ((with_reducible apply Then.n)) | ((with_reducible apply AW.regL)) | ((with_reducible apply AW.block)) | ((with_reducible apply InBlk.n)) | ((with_reducible apply AW.skip)) | ((with_reducible apply AW.condT); exact rfl; (focus ((simp only [decide_eq_true_eq, decide_eq_false_iff_not, Bool.not_eq_true', Bool.not_eq_false', Bool.not_true, Bool.not_false]; first | assumption | omega)))) | ((with_reducible apply AW.condF); exact rfl; (focus (rfl)))))
        refine ⟨_, _, [], ?_, (Back.trim rfl rfl (by repeat (exact CellsOk.nil)) (by repeat (first | exact trivial | (refine And.intro ⟨rfl, by (first | exact .int _ _ | exact Ren.of_sl (by assumption) (by first | omega | (simp; omega)))⟩ ?_)))), k + 1, rfl, by omega, fun i hi => ?_, rfl, rfl⟩
        · omega
        · by_cases e : i = k
          · subst e; exact hg
          · exact hz i (by omega)
      | false =>
        rw [hg] at hv
        have hn : sB l = false := by
          cases e : sB l with
          | false => rfl
          | true =>
            have : l.length ≤ 32 ∧ l.all gB = true := by simpa [sB] using e
            rw [all_getD this.2 hlt] at hg; cases hg
        (repeat (first | (with_reducible refine AWo.cons ?_) | ((with_reducible refine Step.id ?_); first | ((with_reducible apply Step.assign); exact rfl; exact rfl) | ((with_reducible apply Step.loadL (n := 4)); exact rfl; (focus (decide +kernel)); (focus (decide +kernel)); exact rfl; (focus (first | exact RdL.new rfl rfl | exact RdL.old _ (h3 _ hlt))); exact rfl; exact rfl) | ((with_reducible apply Step.ix (s := 4)); exact rfl; (focus (assumption)); exact rfl; (focus (decide +kernel)); exact rfl; (focus (omega))) | ((with_reducible apply Step.lss); exact rfl; exact rfl; exact rfl) | ((with_reducible apply Step.not); exact rfl; exact rfl) | ((with_reducible apply Step.callR fit); exact rfl; exact Try.func67; exact rfl; exact rfl; exact (hv _)) | ((with_reducible apply Step.alloc 0); exact rfl; exact ze24; exact rfl; (focus (first | (simp only [List.nil_append, List.cons_append, List.set_cons_zero, List.set_cons_succ, iv_set, bv_set, iv_rep, bv_rep]; done) | (simp only [List.nil_append, List.cons_append, List.set_cons_zero, List.set_cons_succ, iv_set, bv_set, iv_rep, bv_rep]; rfl) | rfl))) | ((with_reducible apply Step.storeA (k := 0) (n := 4)); exact rfl; exact rfl; exact rfl; exact rfl; (focus (decide +kernel)); exact rfl; (focus (kernel_rfl)); exact rfl; (focus (first | (simp only [List.nil_append, List.cons_append, List.set_cons_zero, List.set_cons_succ, iv_set, bv_set, iv_rep, bv_rep]; done) | (simp only [List.nil_append, List.cons_append, List.set_cons_zero, List.set_cons_succ, iv_set, bv_set, iv_rep, bv_rep]; rfl) | rfl)))) | (with_reducible refine AWo.nil ?_) | ((with_reducible apply AW.seq)) | ((with_reducible apply Then.n)) | ((with_reducible apply AW.regL)) | ((with_reducible apply AW.block)) | ((with_reducible apply AW.skip)) | ((with_reducible apply AW.condT); exact rfl; (focus (first | rfl | (simp only [decide_eq_true_eq, decide_eq_false_iff_not, Bool.not_eq_true', Bool.not_eq_false', Bool.not_true, Bool.not_false]; first | assumption | omega))))))
        (refine AW.retD (l := [(2, _)]) (by repeat (first | exact trivial | (refine And.intro ⟨rfl, by (exact .bool _)⟩ ?_))) ?_; (repeat (first | refine Then.r ?_ | refine InBlk.r ?_)))
        exact ⟨_, rfl, by rw [hn], rfl⟩
    · (repeat (first | (with_reducible refine AWo.cons ?_) | ((with_reducible refine Step.id ?_); first | ((with_reducible apply Step.assign); exact rfl; exact rfl) | ((with_reducible apply Step.lss); exact rfl; exact rfl; exact rfl)) | (with_reducible refine AWo.nil ?_) | ((with_reducible apply AW.seq)) | ((with_reducible apply Then.n)) | ((with_reducible apply AW.regL)) | ((with_reducible apply AW.exit)) | ((with_reducible apply InBlk.hit)) | ((with_reducible apply Then.e)) | ((with_reducible apply AW.condF); exact rfl; (focus ((simp only [decide_eq_true_eq, decide_eq_false_iff_not, Bool.not_eq_true', Bool.not_eq_false', Bool.not_true, Bool.not_false]; first | assumption | omega))))))
      obtain rfl : k = l.length := by omega
      have hy : sB l = true := by
        simp only [sB, Bool.and_eq_true, decide_eq_true_eq, List.all_eq_true]
        refine ⟨by omega, fun x hx => ?_⟩
        obtain ⟨i, hi, rfl⟩ := List.getElem_of_mem hx
        have := hz i hi
        simpa [hi] using this
      (refine AW.retD (l := [(2, _)]) (by repeat (first | exact trivial | (refine And.intro ⟨rfl, by (exact .bool _)⟩ ?_))) ?_; (repeat (first | refine Then.r ?_ | refine InBlk.r ?_)))
      exact ⟨_, rfl, by rw [hy], rfl⟩
set_option maxRecDepth 100000 in
theorem Good_ok {m : AM} {lv rv : Value} {L R : List Gl} {u : Ru} (hl : Gls m lv L) (hr : Gls m rv R) (h1 : L.length ≤ 9223372036854775807) (h2 : R.length ≤ 9223372036854775807) {b : Bool} (hb : (sB L && sB R && uB u) = b) : ACall Try.prog 26 #[lv, rv, u.v] m (Ret (.bool b) m) := by
  subst hb
  have c1 := fun T => Side_ok (hl.old T) h1 rfl
  have c2 := fun T => Side_ok (hr.old T) h2 rfl
  have c3 := fun T => law_ok (m := m ++ T) u rfl
  refine ACall.start Try.func26 rfl rfl ?_
  cases e1 : sB L with
  | false =>
    rw [e1] at c1
    (repeat (first | (with_reducible refine AWo.cons ?_) | ((with_reducible refine Step.id ?_); first | ((with_reducible apply Step.gdF); exact rfl; exact rfl; (focus (rfl))) | ((with_reducible apply Step.move); exact rfl; exact rfl) | ((with_reducible apply Step.assign); exact rfl; exact rfl) | ((with_reducible apply Step.pickF); exact rfl; exact rfl; exact rfl; exact rfl; (focus (rfl))) | ((with_reducible apply Step.callR fit); exact rfl; exact Try.func61; exact rfl; exact rfl; exact (c1 _)) | ((with_reducible apply Step.box 0); exact rfl; exact rfl; (focus (kernel_rfl)); exact rfl; (focus (first | (simp only [List.nil_append, List.cons_append, List.set_cons_zero, List.set_cons_succ, iv_set, bv_set, iv_rep, bv_rep]; done) | (simp only [List.nil_append, List.cons_append, List.set_cons_zero, List.set_cons_succ, iv_set, bv_set, iv_rep, bv_rep]; rfl) | rfl)))) | (with_reducible refine AWo.nil ?_) | ((with_reducible apply AW.seq)) | ((with_reducible apply Then.n)) | ((with_reducible apply AW.regL))))
    (refine AW.retD (l := [(6, _)]) (by repeat (first | exact trivial | (refine And.intro ⟨rfl, by (exact .bool _)⟩ ?_))) ?_; (repeat (first | refine Then.r ?_ | refine InBlk.r ?_)))
    exact ⟨_, rfl, rfl, rfl⟩
  | true =>
    rw [e1] at c1
    cases e2 : sB R with
    | false =>
      rw [e2] at c2
      (repeat (first | (with_reducible refine AWo.cons ?_) | ((with_reducible refine Step.id ?_); first | ((with_reducible apply Step.gdT); exact rfl; exact rfl; (focus (rfl))) | ((with_reducible apply Step.gdF); exact rfl; exact rfl; (focus (rfl))) | ((with_reducible apply Step.move); exact rfl; exact rfl) | ((with_reducible apply Step.assign); exact rfl; exact rfl) | ((with_reducible apply Step.pickT); exact rfl; exact rfl; exact rfl; exact rfl; (focus (rfl))) | ((with_reducible apply Step.pickF); exact rfl; exact rfl; exact rfl; exact rfl; (focus (rfl))) | ((with_reducible apply Step.callR fit); exact rfl; exact Try.func61; exact rfl; exact rfl; exact (c1 _)) | ((with_reducible apply Step.callR fit); exact rfl; exact Try.func61; exact rfl; exact rfl; exact (c2 _)) | ((with_reducible apply Step.box 0); exact rfl; exact rfl; (focus (kernel_rfl)); exact rfl; (focus (first | (simp only [List.nil_append, List.cons_append, List.set_cons_zero, List.set_cons_succ, iv_set, bv_set, iv_rep, bv_rep]; done) | (simp only [List.nil_append, List.cons_append, List.set_cons_zero, List.set_cons_succ, iv_set, bv_set, iv_rep, bv_rep]; rfl) | rfl)))) | (with_reducible refine AWo.nil ?_) | ((with_reducible apply AW.seq)) | ((with_reducible apply Then.n)) | ((with_reducible apply AW.regL))))
      (refine AW.retD (l := [(6, _)]) (by repeat (first | exact trivial | (refine And.intro ⟨rfl, by (exact .bool _)⟩ ?_))) ?_; (repeat (first | refine Then.r ?_ | refine InBlk.r ?_)))
      exact ⟨_, rfl, rfl, rfl⟩
    | true =>
      rw [e2] at c2
      (repeat (first | (with_reducible refine AWo.cons ?_) | ((with_reducible refine Step.id ?_); first | ((with_reducible apply Step.gdT); exact rfl; exact rfl; (focus (rfl))) | ((with_reducible apply Step.move); exact rfl; exact rfl) | ((with_reducible apply Step.assign); exact rfl; exact rfl) | ((with_reducible apply Step.loadL (n := 8)); exact rfl; (focus (decide +kernel)); (focus (decide +kernel)); exact rfl; (focus (exact RdL.new rfl rfl)); exact rfl; exact rfl) | ((with_reducible apply Step.pickT); exact rfl; exact rfl; exact rfl; exact rfl; (focus (rfl))) | ((with_reducible apply Step.callR fit); exact rfl; exact Try.func61; exact rfl; exact rfl; exact (c1 _)) | ((with_reducible apply Step.callR fit); exact rfl; exact Try.func61; exact rfl; exact rfl; exact (c2 _)) | ((with_reducible apply Step.callR fit); exact rfl; exact Try.func62; exact rfl; exact rfl; exact (c3 _)) | ((with_reducible apply Step.box 0); exact rfl; exact rfl; (focus (kernel_rfl)); exact rfl; (focus (first | (simp only [List.nil_append, List.cons_append, List.set_cons_zero, List.set_cons_succ, iv_set, bv_set, iv_rep, bv_rep]; done) | (simp only [List.nil_append, List.cons_append, List.set_cons_zero, List.set_cons_succ, iv_set, bv_set, iv_rep, bv_rep]; rfl) | rfl)))) | (with_reducible refine AWo.nil ?_) | ((with_reducible apply AW.seq)) | ((with_reducible apply Then.n)) | ((with_reducible apply AW.regL))))
      (refine AW.retD (l := [(6, _)]) (by repeat (first | exact trivial | (refine And.intro ⟨rfl, by (exact .bool _)⟩ ?_))) ?_; (repeat (first | refine Then.r ?_ | refine InBlk.r ?_)))
      exact ⟨_, rfl, by simp, rfl⟩
end Go.Proofs.Ytajpngnphbdnnaa.Abs
namespace Go.Proofs.Ytajpngnphbdnnaa.Abs
set_option linter.unusedSimpArgs false
set_option linter.unusedVariables false
open Go.RowKit
open Go.Proofs.Ytajpngnphbdnnaa.Sim
open Go.Proofs
/-- The table as a slice of rows. -/
def RT (m : AM) (v : Value) (c : Nat → Nat → Int) (l r : Nat) : Prop := ∃ b o, Sl v b o l ∧ b < m.length ∧ ∀ i, i < l → ∃ w, Rd m b (o + i) w ∧ Ints m w (tab (c i) r)
theorem RT.old {m : AM} {v : Value} {c : Nat → Nat → Int} {l r : Nat} (L : AM) (h : RT m v c l r) : RT (m ++ L) v c l r := by
  obtain ⟨b, o, h5, h6, h7⟩ := h
  exact ⟨b, o, h5, by simp; omega, fun i hi => by
    obtain ⟨w, k1, k2⟩ := h7 i hi
    exact ⟨w, k1.old L, k2.old L⟩⟩
set_option maxHeartbeats 4000000 in
set_option maxRecDepth 100000 in
theorem table_ok {m : AM} {lv rv : Value} {u : Ru} {L R : List Gl} (hl : Gls m lv L) (hr : Gls m rv R) (hL : sB L = true) (hR : sB R = true) (hu : uB u = true) : ACall Try.prog 59 #[lv, rv, u.v] m (More (fun M v => RT M v (cT u L R) L.length R.length) m) := by
  have h1 : L.length ≤ 32 ∧ L.all gB = true := by simpa [sB] using hL
  have h2 : R.length ≤ 32 ∧ R.all gB = true := by simpa [sB] using hR
  have h3 : gB u.w = true ∧ gB u.l = true := by simpa [uB] using hu
  have r0 : ∀ T : AM, RdL (m ++ (some { cells := u.cells } :: T)) (m.length + 0) 0 u.cells := fun T => RdL.new rfl rfl
  obtain ⟨la, lo, l1, l2, l3⟩ := id hl
  obtain ⟨ra, ro, r1, r2, r3⟩ := id hr
  refine ACall.start Try.func59 rfl rfl ?_
  (repeat (first | (with_reducible refine AWo.cons ?_) | ((with_reducible refine Step.id ?_); first | ((with_reducible apply Step.move); exact rfl; exact rfl) | ((with_reducible apply Step.assign); exact rfl; exact rfl) | ((with_reducible apply Step.len); exact rfl; (focus (assumption)); (focus (decide +kernel)); exact rfl) | ((with_reducible apply Step.box 0); exact rfl; exact rfl; (focus (kernel_rfl)); exact rfl; (focus (first | (simp only [List.nil_append, List.cons_append, List.set_cons_zero, List.set_cons_succ, iv_set, bv_set, iv_rep, bv_rep]; done) | (simp only [List.nil_append, List.cons_append, List.set_cons_zero, List.set_cons_succ, iv_set, bv_set, iv_rep, bv_rep]; rfl) | rfl)))) | (with_reducible refine AWo.nil ?_) | ((with_reducible apply AW.seq)) | ((with_reducible apply Then.n)) | ((with_reducible apply AW.regL)) | ((with_reducible apply AW.block))))
  refine AW.loopW (fun rk t M => ∃ (k : Nat) (N : AM) (cv : Value) (ws : List Value), rk = L.length - k ∧ k ≤ L.length ∧ M = m ++ N ∧ 0 < N.length ∧ RdL M (m.length + 0) 0 u.cells ∧
    Spn M (m.length + 1) cv ws ∧ ws.length = k ∧ Rws M (m.length + 1) (m.length + 0) ws (cT u L R) R.length ∧
    t = fr [(1, rv), (5, .pointer (some ⟨m.length + 0, 0, none⟩)), (7, cv), (13, lv), (14, .int .i64 (L.length : Nat)), (15, .int .i64 (k : Nat))])
    ⟨_, _, (by repeat (first | exact trivial | (refine And.intro rfl ?_))), 0, _, _, [], rfl, Nat.zero_le _, rfl, by simp, r0 _, .inl ⟨rfl, rfl⟩, rfl, fun i hi => by simp at hi, rfl⟩ ?_
  rintro rk t M ⟨k, N, cv, ws, rfl, hk, hM, hN0, rU, hsp, hws, hrw, rfl⟩
  rcases Nat.lt_or_ge k L.length with hlt | hge
  · have hxv := all_getD h1.2 hlt
    have hML0 : m.length + 1 ≤ M.length := by rw [hM]; simp; omega
    have w5 : Low M.length (.pointer (some ⟨m.length + 0, 0, none⟩)) := .ptr (by omega)
    have wl : Low M.length lv := Low.of_sl l1 (by rw [hM]; simp; omega)
    have wr : Low M.length rv := Low.of_sl r1 (by rw [hM]; simp; omega)
    have wc : Low M.length cv := by
      rcases hsp with ⟨_, h⟩ | ⟨_, s, _, h, hs⟩
      · rw [h]; exact fun _ _ _ _ => .sliceNil
      · rw [h]; exact .slice (List.getElem?_eq_some_iff.1 hs).1
    have hg0 : ∀ v ∈ (L.getD k default).cells, g0 v = true := fun v hv => g0_iv [_, _, _, _] v hv
    have rx : ∀ T, RdL (M ++ T) la (lo + k * 4) (L.getD k default).cells := fun T => by rw [hM]; exact ((l3 k hlt).old N).old T
    have ry : ∀ j, j < R.length → ∀ T, RdL (M ++ T) ra (ro + j * 4) (R.getD j default).cells := fun j hj T => by rw [hM]; exact ((r3 j hj).old N).old T
    refine AW.rebase ?_
    (repeat (first | (with_reducible refine AWo.cons ?_) | ((with_reducible refine Step.id ?_); first | ((with_reducible apply Step.move); exact rfl; exact rfl) | ((with_reducible apply Step.assign); exact rfl; exact rfl) | ((with_reducible apply Step.loadL (n := 4)); exact rfl; (focus (decide +kernel)); (focus (decide +kernel)); exact rfl; (focus (exact rx _)); exact rfl; exact rfl) | ((with_reducible apply Step.ix (s := 4)); exact rfl; (focus (assumption)); exact rfl; (focus (decide +kernel)); exact rfl; (focus (omega))) | ((with_reducible apply Step.lss); exact rfl; exact rfl; exact rfl) | ((with_reducible apply Step.len); exact rfl; (focus (assumption)); (focus (decide +kernel)); exact rfl) | ((with_reducible apply Step.alloc 0); exact rfl; exact ze24; exact rfl; (focus (first | (simp only [List.nil_append, List.cons_append, List.set_cons_zero, List.set_cons_succ, iv_set, bv_set, iv_rep, bv_rep]; done) | (simp only [List.nil_append, List.cons_append, List.set_cons_zero, List.set_cons_succ, iv_set, bv_set, iv_rep, bv_rep]; rfl) | rfl))) | ((with_reducible apply Step.storeA (k := 0) (n := 4)); exact rfl; exact rfl; exact rfl; exact rfl; (focus (decide +kernel)); exact rfl; (focus (kernel_rfl)); exact rfl; (focus (first | (simp only [List.nil_append, List.cons_append, List.set_cons_zero, List.set_cons_succ, iv_set, bv_set, iv_rep, bv_rep]; done) | (simp only [List.nil_append, List.cons_append, List.set_cons_zero, List.set_cons_succ, iv_set, bv_set, iv_rep, bv_rep]; rfl) | rfl))) | ((with_reducible apply Step.make1 1); exact rfl; exact rfl; exact rfl; exact el27; (focus (omega)); exact rfl; (focus (first | (simp only [List.nil_append, List.cons_append, List.set_cons_zero, List.set_cons_succ, iv_set, bv_set, iv_rep, bv_rep]; done) | (simp only [List.nil_append, List.cons_append, List.set_cons_zero, List.set_cons_succ, iv_set, bv_set, iv_rep, bv_rep]; rfl) | rfl)))) | (with_reducible refine AWo.nil ?_) | ((with_reducible apply AW.seq)) | ((with_reducible apply Then.n)) | ((with_reducible apply AW.regL)) | ((with_reducible apply AW.block)) | ((with_reducible apply AW.skip)) | ((with_reducible apply AW.condT); exact rfl; (focus ((simp only [decide_eq_true_eq, decide_eq_false_iff_not, Bool.not_eq_true', Bool.not_eq_false', Bool.not_true, Bool.not_false]; first | assumption | omega))))))
    refine AW.loopT (fun rk t L' => ∃ j : Nat, rk = R.length - j ∧ j ≤ R.length ∧ L' = [some { cells := (L.getD k default).cells }, some { cells := iv (tab (fun q => if q < j then cT u L R k q else 0) R.length) }] ∧
      t = [(1, rv), (5, .pointer (some ⟨m.length + 0, 0, none⟩)), (7, cv), (13, lv), (14, .int .i64 (L.length : Nat)), (15, .int .i64 (k : Nat)), (9, .pointer (some ⟨M.length + 0, 0, none⟩)), (10, .slice (some ⟨M.length + 1, 0, none⟩) R.length R.length), (22, rv), (23, .int .i64 (R.length : Nat)), (24, .int .i64 (j : Nat))])
      ⟨_, _, _, (Or.inl ⟨rfl, (by repeat (first | exact trivial | (refine And.intro rfl ?_)))⟩), 0, rfl, Nat.zero_le _, by rw [tab_rep]; simp; rfl, rfl⟩ ?_
    rintro rk t L' ⟨j, rfl, hj, rfl, rfl⟩
    rcases Nat.lt_or_ge j R.length with hjl | hjg
    · have hyv := all_getD h2.2 hjl
      have hcst := fun T => price_ok (m := M ++ T) u _ _ h3.1 h3.2 hxv hyv rfl
      have ecT : cT u L R k j = costF u (L.getD k default) (R.getD j default) := if_pos ⟨hlt, hjl⟩
      rw [← ecT] at hcst
      (repeat (first | (with_reducible refine AWo.cons ?_) | ((with_reducible refine Step.id ?_); first | ((with_reducible apply Step.move); exact rfl; exact rfl) | ((with_reducible apply Step.assign); exact rfl; exact rfl) | ((with_reducible apply Step.loadL (n := 4)); exact rfl; (focus (decide +kernel)); (focus (decide +kernel)); exact rfl; (focus (first | exact RdL.new rfl rfl | exact ry j hjl _)); exact rfl; exact rfl) | ((with_reducible apply Step.loadL (n := 8)); exact rfl; (focus (decide +kernel)); (focus (decide +kernel)); exact rfl; (focus (exact RdL.old _ (by assumption))); exact rfl; exact rfl) | ((with_reducible apply Step.ix1z); exact rfl; (focus (exact Sl.mk (by omega))); exact rfl; (focus (decide +kernel)); exact rfl; (focus (omega))) | ((with_reducible apply Step.ix (s := 4)); exact rfl; (focus (assumption)); exact rfl; (focus (decide +kernel)); exact rfl; (focus (omega))) | ((with_reducible apply Step.add); exact rfl; exact rfl; (focus (omega)); exact rfl) | ((with_reducible apply Step.lss); exact rfl; exact rfl; exact rfl) | ((with_reducible apply Step.callR fit); exact rfl; exact Try.func51; exact rfl; exact rfl; exact (hcst _)) | ((with_reducible apply Step.store (k := 1)); exact rfl; exact rfl; exact rfl; exact rfl; (focus (decide +kernel)); exact rfl; exact rfl; (focus (first | omega | (simp [iv, bv]; done) | (simp [iv, bv]; omega))); (focus (first | (simp only [List.nil_append, List.cons_append, List.set_cons_zero, List.set_cons_succ, iv_set, bv_set, iv_rep, bv_rep]; done) | (simp only [List.nil_append, List.cons_append, List.set_cons_zero, List.set_cons_succ, iv_set, bv_set, iv_rep, bv_rep]; rfl) | rfl))) | ((with_reducible apply Step.alloc 2); exact rfl; exact ze24; exact rfl; (focus (first | (simp only [List.nil_append, List.cons_append, List.set_cons_zero, List.set_cons_succ, iv_set, bv_set, iv_rep, bv_rep]; done) | (simp only [List.nil_append, List.cons_append, List.set_cons_zero, List.set_cons_succ, iv_set, bv_set, iv_rep, bv_rep]; rfl) | rfl))) | ((with_reducible apply Step.storeA (k := 2) (n := 4)); exact rfl; exact rfl; exact rfl; exact rfl; (focus (decide +kernel)); exact rfl; (focus (kernel_rfl)); exact rfl; (focus (first | (simp only [List.nil_append, List.cons_append, List.set_cons_zero, List.set_cons_succ, iv_set, bv_set, iv_rep, bv_rep]; done) | (simp only [List.nil_append, List.cons_append, List.set_cons_zero, List.set_cons_succ, iv_set, bv_set, iv_rep, bv_rep]; rfl) | rfl)))) | (with_reducible refine AWo.nil ?_) | ((with_reducible apply AW.seq)) | ((with_reducible apply Then.n)) | ((with_reducible apply AW.regL)) | ((with_reducible apply AW.block)) | ((with_reducible apply InBlk.n)) | ((with_reducible apply AW.skip)) | ((with_reducible apply AW.condT); exact rfl; (focus ((simp only [decide_eq_true_eq, decide_eq_false_iff_not, Bool.not_eq_true', Bool.not_eq_false', Bool.not_true, Bool.not_false]; first | assumption | omega))))))
      refine ⟨_, _, [some { cells := (L.getD k default).cells }, some { cells := iv (tab (Hung.up (fun q => if q < j then cT u L R k q else 0) j (cT u L R k j)) R.length) }], ?_, by rw [← tab_set]; exact (Back.trim rfl rfl (by repeat (first | exact CellsOk.nil | refine CellsOk.cons (by first | assumption | exact g0_iv _) ?_)) (by repeat (first | exact trivial | (refine And.intro ⟨rfl, by (first | exact Low.rid (by assumption) (by simp) | exact .int _ _ | exact .slice _ _ _ _ (by first | (simp; done) | omega | (simp; omega)) | exact .ptr _ _ (by first | (simp; done) | omega | (simp; omega)))⟩ ?_)))), j + 1, rfl, by omega, ?_, rfl⟩
      · omega
      · have : Hung.up (fun q => if q < j then cT u L R k q else 0) j (cT u L R k j) = fun q => if q < j + 1 then cT u L R k q else 0 := by
          funext q
          simp only [Hung.up]
          by_cases e : q = j
          · subst e; rw [if_pos rfl, if_pos (by omega)]
          · rw [if_neg e]
            by_cases d : q < j
            · rw [if_pos d, if_pos (by omega)]
            · rw [if_neg d, if_neg (by omega)]
        rw [this]
    · obtain rfl : j = R.length := by omega
      have etab : tab (fun q => if q < R.length then cT u L R k q else 0) R.length = tab (cT u L R k) R.length := tab_congr fun q hq => if_pos hq
      rw [etab]
      obtain ⟨M3, hM3⟩ : ∃ M3, M ++ [some { cells := (L.getD k default).cells }, some { cells := iv (tab (cT u L R k) R.length) }, some { cells := [.slice (some ⟨M.length + 1, 0, none⟩) R.length R.length] }] = M3 := ⟨_, rfl⟩
      have g1 : M3[M.length + 1]? = some (some { cells := iv (tab (cT u L R ws.length) R.length) }) := by rw [← hM3, get_app, hws]; rfl
      have g2 : M3[M.length + 2]? = some (some { cells := [.slice (some ⟨M.length + 1, 0, none⟩) R.length R.length] }) := by rw [← hM3, get_app]; rfl
      have g4 : RdL M3 (m.length + 0) 0 u.cells := by rw [← hM3]; exact rU.old _
      have s3 : Spn M3 (m.length + 1) cv ws := by rw [← hM3]; exact hsp.old _
      have w3 : Rws M3 (m.length + 1) (m.length + 0) ws (cT u L R) R.length := by rw [← hM3]; exact hrw.old _
      have l3' : M3.length = M.length + 3 := by rw [← hM3]; simp
      have p3 : ∃ N', M3 = m ++ N' ∧ 0 < N'.length := ⟨_, by rw [← hM3, hM, List.append_assoc], by simp⟩
      obtain ⟨G1, G2⟩ := s3.grow w3 (b := M.length + 1) (by omega) (by omega) g1 (by omega)
      obtain ⟨N', hN', hN0'⟩ := p3
      rcases hsp with ⟨z1, z2⟩ | ⟨z1, sp, z2, z3, z4⟩
      · obtain ⟨y1, y2⟩ := G1 z1
        subst z1 z2
        (repeat (first | (with_reducible refine AWo.cons ?_) | ((with_reducible refine Step.id ?_); first | ((with_reducible apply Step.move); exact rfl; exact rfl) | ((with_reducible apply Step.lss); exact rfl; exact rfl; exact rfl) | ((with_reducible apply Step.buildS 2); exact rfl; exact rfl; exact (fun _ _ => bs80); exact rfl; (focus (first | (simp only [List.nil_append, List.cons_append, List.set_cons_zero, List.set_cons_succ, iv_set, bv_set, iv_rep, bv_rep]; done) | (simp only [List.nil_append, List.cons_append, List.set_cons_zero, List.set_cons_succ, iv_set, bv_set, iv_rep, bv_rep]; rfl) | rfl)))) | (with_reducible refine AWo.nil ?_) | ((with_reducible apply AW.seq)) | ((with_reducible apply Then.n)) | ((with_reducible apply AW.regL)) | ((with_reducible apply AW.exit)) | ((with_reducible apply InBlk.hit)) | ((with_reducible apply Then.e)) | ((with_reducible apply AW.condF); exact rfl; (focus ((simp only [decide_eq_true_eq, decide_eq_false_iff_not, Bool.not_eq_true', Bool.not_eq_false', Bool.not_true, Bool.not_false]; first | assumption | omega))))))
        rw [hM3]
        ((with_reducible apply Step.appN); exact rfl; exact rfl; exact el80; exact un80; exact g2; exact rfl; (focus (decide +kernel)); exact rfl)
        (repeat (first | (with_reducible refine AWo.cons ?_) | ((with_reducible refine Step.id ?_); first | ((with_reducible apply Step.move); exact rfl; exact rfl) | ((with_reducible apply Step.assign); exact rfl; exact rfl) | ((with_reducible apply Step.add); exact rfl; exact rfl; (focus (omega)); exact rfl)) | (with_reducible refine AWo.nil ?_) | ((with_reducible apply Then.n)) | ((with_reducible apply AW.regL)) | ((with_reducible apply InBlk.n))))
        refine ⟨_, [(1, rv), (5, .pointer (some ⟨m.length + 0, 0, none⟩)), (7, .slice (some ⟨M3.length, 0, none⟩) 1 1), (13, lv), (14, .int .i64 (L.length : Nat)), (15, .int .i64 ((k + 1 : Nat) : Int))], ?_, (by repeat (first | exact trivial | (refine And.intro rfl ?_))), k + 1, _, _, _, rfl, by omega, by rw [hN', List.append_assoc], by simp, g4.old _, y1, ?_, y2, rfl⟩
        · omega
        · simp at hws ⊢; omega
      · obtain ⟨y1, y2⟩ := G2 sp z3 (by rw [← hM3]; exact get_old _ z4)
        subst z3
        have hspm : m.length ≤ sp := by omega
        (repeat (first | (with_reducible refine AWo.cons ?_) | ((with_reducible refine Step.id ?_); first | ((with_reducible apply Step.move); exact rfl; exact rfl) | ((with_reducible apply Step.lss); exact rfl; exact rfl; exact rfl) | ((with_reducible apply Step.buildS 2); exact rfl; exact rfl; exact (fun _ _ => bs80); exact rfl; (focus (first | (simp only [List.nil_append, List.cons_append, List.set_cons_zero, List.set_cons_succ, iv_set, bv_set, iv_rep, bv_rep]; done) | (simp only [List.nil_append, List.cons_append, List.set_cons_zero, List.set_cons_succ, iv_set, bv_set, iv_rep, bv_rep]; rfl) | rfl)))) | (with_reducible refine AWo.nil ?_) | ((with_reducible apply AW.seq)) | ((with_reducible apply Then.n)) | ((with_reducible apply AW.regL)) | ((with_reducible apply AW.exit)) | ((with_reducible apply InBlk.hit)) | ((with_reducible apply Then.e)) | ((with_reducible apply AW.condF); exact rfl; (focus ((simp only [decide_eq_true_eq, decide_eq_false_iff_not, Bool.not_eq_true', Bool.not_eq_false', Bool.not_true, Bool.not_false]; first | assumption | omega))))))
        rw [hM3]
        ((with_reducible apply Step.appB); exact rfl; exact rfl; exact el80; exact un80; (focus (rw [← hM3]; exact get_old _ z4)); exact rfl; exact g2; exact rfl; (focus (omega)); exact rfl)
        (repeat (first | (with_reducible refine AWo.cons ?_) | ((with_reducible refine Step.id ?_); first | ((with_reducible apply Step.move); exact rfl; exact rfl) | ((with_reducible apply Step.assign); exact rfl; exact rfl) | ((with_reducible apply Step.add); exact rfl; exact rfl; (focus (omega)); exact rfl)) | (with_reducible refine AWo.nil ?_) | ((with_reducible apply Then.n)) | ((with_reducible apply AW.regL)) | ((with_reducible apply InBlk.n))))
        refine ⟨_, [(1, rv), (5, .pointer (some ⟨m.length + 0, 0, none⟩)), (7, .slice (some ⟨M3.length, 0, none⟩) (ws.length + 1) (ws.length + 1)), (13, lv), (14, .int .i64 (L.length : Nat)), (15, .int .i64 ((k + 1 : Nat) : Int))], ?_, (by repeat (first | exact trivial | (refine And.intro rfl ?_))), k + 1, N'.set (sp - m.length) none ++ [some { cells := ws ++ [.slice (some ⟨M.length + 1, 0, none⟩) R.length R.length], kind := .grow, size := 1 }], _, _, rfl, by omega, by rw [hN', ← List.append_assoc, ← List.set_append_right _ _ hspm], by simp, (g4.set (by omega)).old _, y1, ?_, y2, rfl⟩
        · omega
        · simp at hws ⊢; omega
  · obtain rfl : k = L.length := by omega
    (repeat (first | (with_reducible refine AWo.cons ?_) | ((with_reducible refine Step.id ?_); first | ((with_reducible apply Step.move); exact rfl; exact rfl) | ((with_reducible apply Step.assign); exact rfl; exact rfl) | ((with_reducible apply Step.lss); exact rfl; exact rfl; exact rfl)) | (with_reducible refine AWo.nil ?_) | ((with_reducible apply AW.seq)) | ((with_reducible apply Then.n)) | ((with_reducible apply AW.regL)) | ((with_reducible apply AW.exit)) | ((with_reducible apply InBlk.hit)) | ((with_reducible apply Then.e)) | ((with_reducible apply AW.condF); exact rfl; (focus ((simp only [decide_eq_true_eq, decide_eq_false_iff_not, Bool.not_eq_true', Bool.not_eq_false', Bool.not_true, Bool.not_false]; first | assumption | omega))))))
    (refine AW.ret ?_; (repeat (first | refine Then.r ?_ | refine InBlk.r ?_)))
    rcases hsp with ⟨z1, z2⟩ | ⟨z1, sp, z2, z3, z4⟩
    · refine ⟨_, rfl, N, hM, 0, 0, ?_, by rw [hM]; simp; omega, fun i hi => ?_⟩
      · rw [z2, ← hws, z1]; exact Sl.nil _ _
      · rw [z1] at hws; simp at hws; omega
    · refine ⟨_, rfl, N, hM, sp, 0, ?_, (List.getElem?_eq_some_iff.1 z4).1, fun i hi => ?_⟩
      · rw [z3, hws]; exact Sl.mk (Nat.le_refl _)
      · obtain ⟨b, b1, b2, b3, b4⟩ := hrw i (by omega)
        exact ⟨_, ⟨_, z4, by rw [Nat.zero_add]; exact b3⟩, ints_at b4 rfl _ (by simp)⟩
end Go.Proofs.Ytajpngnphbdnnaa.Abs
namespace Go.Proofs.Ytajpngnphbdnnaa.Abs
set_option linter.unusedSimpArgs false
set_option linter.unusedVariables false
open Go.RowKit
open Go.Proofs.Ytajpngnphbdnnaa.Sim
open Go.Proofs
/-- Two valid sides and a valid rule. -/
def okB (L R : List Gl) (u : Ru) : Bool := sB L && sB R && uB u
theorem okB_iff {L R : List Gl} {u : Ru} (h : okB L R u = true) : sB L = true ∧ sB R = true ∧ uB u = true := by
  simp only [okB, Bool.and_eq_true] at h; exact ⟨h.1.1, h.1.2, h.2⟩
theorem okB_len {L R : List Gl} {u : Ru} (h : okB L R u = true) : L.length ≤ 32 ∧ R.length ≤ 32 := by
  obtain ⟨h1, h2, _⟩ := okB_iff h
  simp only [sB, Bool.and_eq_true, decide_eq_true_eq] at h1 h2
  exact ⟨h1.1, h2.1⟩
theorem okB34 (L R : List Gl) (u : Ru) : okB (L.take 34) (R.take 34) u = okB L R u := by
  unfold okB; rw [(take34 L).1, (take34 R).1]
theorem cT34 {L R : List Gl} {u : Ru} (h : okB L R u = true) : L.take 34 = L ∧ R.take 34 = R := by
  obtain ⟨k1, k2, _⟩ := okB_iff h
  exact ⟨(take34 L).2 k1, (take34 R).2 k2⟩
end Go.Proofs.Ytajpngnphbdnnaa.Abs
namespace Go.Proofs.Ytajpngnphbdnnaa.Hung
set_option linter.unusedSimpArgs false
set_option linter.unusedVariables false
def Ed (c : Nat → Nat → Int) (l r : Nat) (gl gr : Nat → Bool) (i j : Nat) : Prop := i < l ∧ j < r ∧ gl i = false ∧ gr j = false ∧ 0 ≤ c i j
def Wt (c : Nat → Nat → Int) (i j : Nat) : Int := 1000000000 - c i j
/-- What a way gains up to a left glove. -/
def stI (c : Nat → Nat → Int) (gain to : Nat → Int) (i : Nat) : Int := if 0 ≤ to i then gain (to i).toNat - Wt c i (to i).toNat else 0
structure Mt (c : Nat → Nat → Int) (l r : Nat) (gl gr : Nat → Bool) (of to : Nat → Int) : Prop where
  t1 : ∀ i, i < l → to i = -1 ∨ ∃ j : Nat, to i = j ∧ Ed c l r gl gr i j ∧ of j = i
  o1 : ∀ j, j < r → of j = -1 ∨ ∃ i : Nat, of j = i ∧ Ed c l r gl gr i j ∧ to i = j
structure Pc (c : Nat → Nat → Int) (l r : Nat) (gl gr : Nat → Bool) (of to a b : Nat → Int) (A : Int) : Prop where
  A0 : 0 ≤ A
  aA : ∀ i, i < l → gl i = false → A ≤ a i ∧ (to i = -1 → a i = A)
  b0 : ∀ j, j < r → gr j = false → 0 ≤ b j ∧ (of j = -1 → b j = 0)
  fe : ∀ i j, Ed c l r gl gr i j → Wt c i j ≤ a i + b j
  ti : ∀ (i j : Nat), i < l → to i = j → a i + b j = Wt c i j
  bA : A ≤ 1000000000
section
variable {c : Nat → Nat → Int} {l r : Nat} {gl gr : Nat → Bool} {of to a b gain : Nat → Int} {fm tau : Nat → Nat} {rl : List Nat} {T : Nat} {A : Int}
/-- How much less than the prices allow the way to a right glove gains. -/
def xs (A : Int) (b gain : Nat → Int) (j : Nat) : Int := A + b j - gain j
/-- The ways found so far: rl are the right gloves that are reached. -/
structure Wy (c : Nat → Nat → Int) (l r : Nat) (gl gr : Nat → Bool) (to b : Nat → Int) (A : Int) (gain : Nat → Int) (fm : Nat → Nat) (rl : List Nat) (tau : Nat → Nat) (T : Nat) : Prop where
  nd : rl.Nodup
  rr : ∀ j ∈ rl, j < r
  un : ∀ j, j < r → j ∉ rl → gain j = -1152921504606846976
  lo : ∀ j ∈ rl, -1000000000 * (rl.length : Int) ≤ gain j
  hi : ∀ j ∈ rl, gain j ≤ A + b j
  ed : ∀ j ∈ rl, Ed c l r gl gr (fm j) j ∧ to (fm j) ≠ j
  ub : ∀ j ∈ rl, gain j ≤ stI c gain to (fm j) + Wt c (fm j) j
  pa : ∀ j ∈ rl, to (fm j) = -1 ∨ ∃ p : Nat, to (fm j) = p ∧ p ∈ rl ∧ (xs A b gain p < xs A b gain j ∨ (xs A b gain p = xs A b gain j ∧ tau p < tau j))
  ta : ∀ j, tau j < T
theorem Wy.start (to b : Nat → Int) (A : Int) (fm : Nat → Nat) : Wy c l r gl gr to b A (fun _ => -1152921504606846976) fm [] (fun _ => 0) 1 :=
  ⟨List.nodup_nil, fun _ h => (by cases h), fun _ _ _ => rfl, fun _ h => (by cases h), fun _ h => (by cases h), fun _ h => (by cases h), fun _ h => (by cases h), fun _ h => (by cases h), fun _ => by omega⟩
theorem Wy.len (h : Wy c l r gl gr to b A gain fm rl tau T) : rl.length ≤ r := by
  have := nodup_le h.nd (k := List.range r) fun x hx => List.mem_range.2 (h.rr x hx)
  simpa using this
/-- A left glove from which a way may go on. -/
def Rd (to : Nat → Int) (rl : List Nat) (i : Nat) : Prop := to i = -1 ∨ ∃ p : Nat, to i = p ∧ p ∈ rl
theorem st_free {i : Nat} (h : to i = -1) : stI c gain to i = 0 := if_neg (by omega)
theorem st_at {i p : Nat} (h : to i = p) : stI c gain to i = gain p - Wt c i p := by
  unfold stI
  rw [h, if_pos (by omega), Int.toNat_natCast]
theorem st_le (hP : Pc c l r gl gr of to a b A) (hW : Wy c l r gl gr to b A gain fm rl tau T) {i : Nat} (hi : i < l) (hg : gl i = false) (hR : Rd to rl i) : stI c gain to i ≤ A - a i := by
  rcases hR with h | ⟨p, h, hp⟩
  · rw [st_free h, (hP.aA i hi hg).2 h]; omega
  · rw [st_at h]
    have := hP.ti i p hi h
    have := hW.hi p hp
    omega
theorem Wy.step (hW : Wy c l r gl gr to b A gain fm rl tau T) (hP : Pc c l r gl gr of to a b A) (hinj : ∀ (i i' j : Nat), i < l → i' < l → to i = j → to i' = j → i = i') {i j : Nat} (he : Ed c l r gl gr i j) (hne : to i ≠ j) (hR : Rd to rl i) (hlt : gain j < stI c gain to i + Wt c i j)
    (hlb : -1000000000 * (rl.length : Int) ≤ stI c gain to i + 1000000000) (hw : 0 ≤ Wt c i j) :
    Wy c l r gl gr to b A (up gain j (stI c gain to i + Wt c i j)) (up fm j i) (if j ∈ rl then rl else j :: rl) (up tau j T) (T + 1) := by
  have hst := st_le hP hW he.1 he.2.2.1 hR
  have hfe := hP.fe i j he
  generalize hs : stI c gain to i = s at *
  have hmem : ∀ q, q ∈ (if j ∈ rl then rl else j :: rl) ↔ q = j ∨ q ∈ rl := fun q => by
    split
    · rename_i h
      exact ⟨.inr, fun h' => h'.elim (fun e => e ▸ h) id⟩
    · simp
  have hlen : (rl.length : Int) ≤ ((if j ∈ rl then rl else j :: rl).length : Nat) := by
    split
    · omega
    · simp only [List.length_cons]; omega
  have gup : ∀ q, q ≠ j → up gain j (s + Wt c i j) q = gain q := fun q h => up_ne _ _ h
  have fup : ∀ q, q ≠ j → up fm j i q = fm q := fun q h => up_ne _ _ h
  have xne : ∀ q, q ≠ j → xs A b (up gain j (s + Wt c i j)) q = xs A b gain q := fun q h => by unfold xs; rw [gup q h]
  have xj : xs A b (up gain j (s + Wt c i j)) j < xs A b gain j := by unfold xs; rw [up_same]; omega
  have stm : ∀ q, stI c gain to q ≤ stI c (up gain j (s + Wt c i j)) to q := fun q => by
    unfold stI
    split
    · by_cases e : (to q).toNat = j
      · rw [e, up_same]; omega
      · rw [gup _ e]; exact Int.le_refl _
    · exact Int.le_refl _
  have stj : stI c (up gain j (s + Wt c i j)) to i = s := by
    rw [← hs]
    rcases hR with h | ⟨p, h, _⟩
    · rw [st_free h, st_free h]
    · have : p ≠ j := fun e => hne (by rw [h, e])
      rw [st_at h, st_at h, up_ne _ _ this]
  refine ⟨?_, fun q hq => ?_, fun q hq hn => ?_, fun q hq => ?_, fun q hq => ?_, fun q hq => ?_, fun q hq => ?_, fun q hq => ?_, fun q => ?_⟩
  · split
    · exact hW.nd
    · rename_i h; exact List.nodup_cons.2 ⟨h, hW.nd⟩
  · rcases (hmem q).1 hq with e | h
    · rw [e]; exact he.2.1
    · exact hW.rr q h
  · have h1 : q ≠ j := fun e => hn ((hmem q).2 (.inl e))
    have h2 : q ∉ rl := fun h => hn ((hmem q).2 (.inr h))
    rw [gup q h1]; exact hW.un q hq h2
  · by_cases e : q = j
    · rw [e, up_same]
      by_cases hj : j ∈ rl
      · have := hW.lo j hj
        simp only [if_pos hj]; omega
      · simp only [if_neg hj, List.length_cons]; omega
    · rw [gup q e]
      have h := ((hmem q).1 hq).resolve_left e
      have := hW.lo q h
      omega
  · by_cases e : q = j
    · rw [e, up_same]; omega
    · rw [gup q e]; exact hW.hi q (((hmem q).1 hq).resolve_left e)
  · by_cases e : q = j
    · rw [e, up_same]; exact ⟨he, hne⟩
    · rw [fup q e]; exact hW.ed q (((hmem q).1 hq).resolve_left e)
  · by_cases e : q = j
    · rw [e, up_same, up_same, stj]; exact Int.le_refl _
    · rw [gup q e, fup q e]
      have := hW.ub q (((hmem q).1 hq).resolve_left e)
      have := stm (fm q)
      omega
  · by_cases e : q = j
    · subst e
      rw [up_same, up_same]
      rcases hR with h | ⟨p, h, hp⟩
      · exact .inl h
      · have hpj : p ≠ q := fun e => hne (by rw [h, e])
        refine .inr ⟨p, h, (hmem p).2 (.inr hp), ?_⟩
        rw [xne p hpj, up_ne _ _ hpj]
        have ht := hP.ti i p he.1 h
        have hs2 := st_at (c := c) (gain := gain) h
        have := hW.ta p
        unfold xs
        rw [up_same]
        omega
    · rw [fup q e, up_ne _ _ e]
      rcases hW.pa q (((hmem q).1 hq).resolve_left e) with h | ⟨p, h, hp, ho⟩
      · exact .inl h
      · refine .inr ⟨p, h, (hmem p).2 (.inr hp), ?_⟩
        rw [xne q e]
        by_cases ep : p = j
        · subst ep
          left; omega
        · rw [xne p ep, up_ne _ _ ep]; exact ho
  · by_cases e : q = j
    · rw [e, up_same]; omega
    · rw [up_ne _ _ e]; have := hW.ta q; omega
/-- Nothing gains any more. -/
def Fx (c : Nat → Nat → Int) (l r : Nat) (gl gr : Nat → Bool) (to gain : Nat → Int) (rl : List Nat) : Prop := ∀ i j, Ed c l r gl gr i j → to i ≠ j → Rd to rl i → stI c gain to i + Wt c i j ≤ gain j
/-- A rank that falls along the ways. -/
theorem Wy.rank (hW : Wy c l r gl gr to b A gain fm rl tau T) : ∃ rk : Nat → Nat, ∀ j ∈ rl, to (fm j) = -1 ∨ ∃ p : Nat, to (fm j) = p ∧ p ∈ rl ∧ rk p < rk j := by
  refine ⟨fun j => (xs A b gain j).toNat * (T + 1) + tau j, fun j hj => ?_⟩
  rcases hW.pa j hj with h | ⟨p, h, hp, ho⟩
  · exact .inl h
  · refine .inr ⟨p, h, hp, ?_⟩
    have x1 : 0 ≤ xs A b gain p := by have := hW.hi p hp; unfold xs; omega
    have x2 : 0 ≤ xs A b gain j := by have := hW.hi j hj; unfold xs; omega
    have := hW.ta p
    rcases ho with ho | ⟨ho, h2⟩
    · have h3 : (xs A b gain p).toNat + 1 ≤ (xs A b gain j).toNat := by omega
      have h4 := Nat.mul_le_mul_right (T + 1) h3
      rw [Nat.add_mul] at h4
      simp only; omega
    · simp only [ho]; omega
end
end Go.Proofs.Ytajpngnphbdnnaa.Hung
namespace Go.Proofs.Ytajpngnphbdnnaa.Hung
set_option linter.unusedSimpArgs false
set_option linter.unusedVariables false
section
variable {c : Nat → Nat → Int} {l r : Nat} {gl gr : Nat → Bool} {of to a b gain : Nat → Int} {fm tau : Nat → Nat} {rl : List Nat} {T : Nat} {A D : Int}
/-- How far a left glove is. -/
def ys (A : Int) (b gain to : Nat → Int) (i : Nat) : Int := if 0 ≤ to i then xs A b gain (to i).toNat else 0
theorem ys_free {i : Nat} (h : to i = -1) : ys A b gain to i = 0 := if_neg (by omega)
theorem ys_at {i p : Nat} (h : to i = p) : ys A b gain to i = xs A b gain p := by
  unfold ys; rw [h, if_pos (by omega), Int.toNat_natCast]
theorem xs_nonneg (hP : Pc c l r gl gr of to a b A) (hW : Wy c l r gl gr to b A gain fm rl tau T) {j : Nat} (hj : j < r) (hg : gr j = false) : 0 ≤ xs A b gain j := by
  by_cases h : j ∈ rl
  · have := hW.hi j h; unfold xs; omega
  · have := hW.un j hj h
    have := (hP.b0 j hj hg).1
    have := hP.A0
    unfold xs; omega
theorem ys_nonneg (hM : Mt c l r gl gr of to) (hP : Pc c l r gl gr of to a b A) (hW : Wy c l r gl gr to b A gain fm rl tau T) {i : Nat} (hi : i < l) : 0 ≤ ys A b gain to i := by
  rcases hM.t1 i hi with h | ⟨j, h, he, _⟩
  · rw [ys_free h]; exact Int.le_refl _
  · rw [ys_at h]; exact xs_nonneg hP hW he.2.1 he.2.2.2.1
/-- The prices moved by D, by how far each glove is. -/
def na (A D : Int) (a b gain to : Nat → Int) (i : Nat) : Int := a i - D + min (ys A b gain to i) D
def nb (A D : Int) (b gain : Nat → Int) (j : Nat) : Int := b j + D - min (xs A b gain j) D
theorem Pc.move (hM : Mt c l r gl gr of to) (hP : Pc c l r gl gr of to a b A) (hW : Wy c l r gl gr to b A gain fm rl tau T) (hF : Fx c l r gl gr to gain rl) (h0 : 0 ≤ D) (hDA : D ≤ A) (hfree : ∀ j, j < r → gr j = false → of j = -1 → D ≤ xs A b gain j) :
    Pc c l r gl gr of to (na A D a b gain to) (nb A D b gain) (A - D) := by
  have hbA := hP.bA
  refine ⟨by omega, fun i hi hg => ?_, fun j hj hg => ?_, fun i j he => ?_, fun i j hi h => ?_, by omega⟩
  · have h1 := (hP.aA i hi hg).1
    have h2 := ys_nonneg hM hP hW hi
    refine ⟨by unfold na; omega, fun h => ?_⟩
    have := (hP.aA i hi hg).2 h
    unfold na; rw [ys_free h]; omega
  · have h1 := (hP.b0 j hj hg).1
    refine ⟨by unfold nb; omega, fun h => ?_⟩
    have h2 := (hP.b0 j hj hg).2 h
    have h3 := hfree j hj hg h
    unfold nb; omega
  · have hfe := hP.fe i j he
    have key : min (xs A b gain j) D ≤ min (ys A b gain to i) D + (a i + b j - Wt c i j) := by
      by_cases hij : to i = j
      · rw [ys_at hij]; omega
      · rcases hM.t1 i he.1 with h | ⟨p, h, hep, _⟩
        · have h1 := hF i j he hij (.inl h)
          rw [st_free h] at h1
          rw [ys_free h]
          have := (hP.aA i he.1 he.2.2.1).2 h
          unfold xs; omega
        · by_cases hp : p ∈ rl
          · have h1 := hF i j he hij (.inr ⟨p, h, hp⟩)
            rw [st_at h] at h1
            rw [ys_at h]
            have := hP.ti i p he.1 h
            unfold xs; omega
          · rw [ys_at h]
            have h1 := hW.un p hep.2.1 hp
            have h2 := (hP.b0 p hep.2.1 hep.2.2.2.1).1
            unfold xs; omega
    unfold na nb; omega
  · rcases hM.t1 i hi with h' | ⟨p, h', hep, _⟩
    · rw [h] at h'; omega
    · have := hP.ti i j hi h
      unfold na nb; rw [ys_at h]; omega
/-- Prices are no greater than what a pair is worth. -/
theorem Pc.b_le (hM : Mt c l r gl gr of to) (hP : Pc c l r gl gr of to a b A) {j : Nat} (hj : j < r) (hg : gr j = false) : b j ≤ 1000000000 := by
  rcases hM.o1 j hj with h | ⟨i, h, he, ht⟩
  · rw [(hP.b0 j hj hg).2 h]; omega
  · have h1 := hP.ti i j he.1 ht
    have h2 := (hP.aA i he.1 he.2.2.1).1
    have h3 := hP.A0
    have h4 := he.2.2.2.2
    unfold Wt at h1; omega
theorem Pc.start (c : Nat → Nat → Int) (l r : Nat) (gl gr : Nat → Bool) : Pc c l r gl gr (fun _ => -1) (fun _ => -1) (fun _ => 1000000000) (fun _ => 0) 1000000000 :=
  ⟨by omega, fun _ _ _ => ⟨Int.le_refl _, fun _ => rfl⟩, fun _ _ _ => ⟨Int.le_refl _, fun _ => rfl⟩, fun i j he => by have := he.2.2.2.2; unfold Wt; omega, fun i j _ h => by omega, Int.le_refl _⟩
theorem Mt.start (c : Nat → Nat → Int) (l r : Nat) (gl gr : Nat → Bool) : Mt c l r gl gr (fun _ => -1) (fun _ => -1) := ⟨fun _ _ => .inl rfl, fun _ _ => .inl rfl⟩
/-- What the pairs are worth. -/
def valT (c : Nat → Nat → Int) (to : Nat → Int) (l : Nat) : Int := sN (fun i => if 0 ≤ to i then Wt c i (to i).toNat else 0) l
/-- Along a way: the right glove j has lost its partner. -/
structure Pg (c : Nat → Nat → Int) (l r : Nat) (gl gr : Nat → Bool) (of0 to0 : Nat → Int) (a b gain : Nat → Int) (rl : List Nat) (rk : Nat → Nat) (A D V : Int) (of to : Nat → Int) (j : Nat) : Prop where
  jr : j ∈ rl
  jD : xs A b gain j ≤ D
  t1 : ∀ i, i < l → to i = -1 ∨ ∃ q : Nat, to i = q ∧ Ed c l r gl gr i q ∧ of q = i ∧ q ≠ j
  o1 : ∀ q, q < r → q ≠ j → of q = -1 ∨ ∃ i : Nat, of q = i ∧ Ed c l r gl gr i q ∧ to i = q
  kp : ∀ i, i < l → to i = to0 i ∨ ∃ k : Nat, to0 i = k ∧ rk j ≤ rk k ∧ k ∈ rl
  vi : ∀ i, i < l → to i = -1 → to0 i = -1
  fo : ∀ q, q < r → q ≠ j → of q = -1 → of0 q = -1
  ti : ∀ (i q : Nat), i < l → to i = q → na A D a b gain to0 i + nb A D b gain q = Wt c i q
  su : valT c to l + gain j = V
theorem Pg.start (hM : Mt c l r gl gr of to) (hP : Pc c l r gl gr of to a b A) (hP' : Pc c l r gl gr of to (na A D a b gain to) (nb A D b gain) (A - D)) (rk : Nat → Nat) {j : Nat} (hj : j ∈ rl) (hjr : j < r) (hx : xs A b gain j ≤ D) (hf : of j = -1) :
    Pg c l r gl gr of to a b gain rl rk A D (valT c to l + gain j) of to j := by
  refine ⟨hj, hx, fun i hi => ?_, fun q hq _ => hM.o1 q hq, fun _ _ => .inl rfl, fun _ _ h => h, fun _ _ _ h => h, fun i q hi h => hP'.ti i q hi h, rfl⟩
  rcases hM.t1 i hi with h | ⟨q, h1, h2, h3⟩
  · exact .inl h
  · exact .inr ⟨q, h1, h2, h3, fun e => by rw [e] at h3; omega⟩
theorem valT_up (c : Nat → Nat → Int) (to : Nat → Int) {l i : Nat} (j : Nat) (hi : i < l) : valT c (up to i (j : Int)) l = valT c to l + (Wt c i j - (if 0 ≤ to i then Wt c i (to i).toNat else 0)) := by
  unfold valT
  have : (fun k => if 0 ≤ up to i (j : Int) k then Wt c k (up to i (j : Int) k).toNat else 0) = up (fun k => if 0 ≤ to k then Wt c k (to k).toNat else 0) i (Wt c i j) := by
    funext k
    by_cases e : k = i
    · subst e; rw [up_same, up_same, if_pos (by omega), Int.toNat_natCast]
    · rw [up_ne _ _ e, up_ne _ _ e]
  rw [this, sN_up, if_pos hi]
theorem Pg.step (hP : Pc c l r gl gr of to a b A) (hW : Wy c l r gl gr to b A gain fm rl tau T) (hF : Fx c l r gl gr to gain rl) {rk : Nat → Nat} (hrk : ∀ j ∈ rl, to (fm j) = -1 ∨ ∃ p : Nat, to (fm j) = p ∧ p ∈ rl ∧ rk p < rk j) {V : Int} {of' to' : Nat → Int} {j : Nat}
    (h : Pg c l r gl gr of to a b gain rl rk A D V of' to' j) :
    to' (fm j) = to (fm j) ∧ fm j < l ∧
    (to (fm j) = -1 → Mt c l r gl gr (up of' j (fm j : Int)) (up to' (fm j) (j : Int)) ∧ (∀ i, i < l → up to' (fm j) (j : Int) i = -1 → to i = -1) ∧ (∀ q, q < r → up of' j (fm j : Int) q = -1 → of q = -1) ∧
      (∀ (i q : Nat), i < l → up to' (fm j) (j : Int) i = q → na A D a b gain to i + nb A D b gain q = Wt c i q) ∧ valT c (up to' (fm j) (j : Int)) l = V) ∧
    (∀ p : Nat, to (fm j) = p → p < r ∧ rk p < rk j ∧ Pg c l r gl gr of to a b gain rl rk A D V (up of' j (fm j : Int)) (up to' (fm j) (j : Int)) p) := by
  obtain ⟨he, hne⟩ := hW.ed j h.jr
  have hil := he.1
  have hpar := hrk j h.jr
  -- the glove before was not met yet
  have hto : to' (fm j) = to (fm j) := by
    rcases h.kp (fm j) hil with e | ⟨k, e, h1, _⟩
    · exact e
    · rcases hpar with e2 | ⟨p, e2, _, h2⟩
      · rw [e] at e2; omega
      · rw [e] at e2
        have : k = p := by omega
        subst this; omega
  have hRd : Hung.Rd to rl (fm j) := by
    rcases hpar with e | ⟨p, e, hp, _⟩
    · exact .inl e
    · exact .inr ⟨p, e, hp⟩
  have heq : gain j = stI c gain to (fm j) + Wt c (fm j) j := by
    have := hW.ub j h.jr
    have := hF (fm j) j he hne hRd
    omega
  -- the pair that is added is tight
  have htj : na A D a b gain to (fm j) + nb A D b gain j = Wt c (fm j) j := by
    have hjD := h.jD
    have hxj : xs A b gain j = ys A b gain to (fm j) + (a (fm j) + b j - Wt c (fm j) j) := by
      rcases hpar with e | ⟨p, e, hp, _⟩
      · rw [ys_free e]
        rw [st_free e] at heq
        have := (hP.aA (fm j) hil he.2.2.1).2 e
        unfold xs; omega
      · rw [ys_at e]
        rw [st_at e] at heq
        have := hP.ti (fm j) p hil e
        unfold xs; omega
    have hfe := hP.fe (fm j) j he
    unfold na nb; omega
  have htiN : ∀ (i q : Nat), i < l → up to' (fm j) (j : Int) i = q → na A D a b gain to i + nb A D b gain q = Wt c i q := fun i q hi hq => by
    by_cases e : i = fm j
    · subst e
      rw [up_same] at hq
      have : j = q := by omega
      subst this; exact htj
    · rw [up_ne _ _ e] at hq; exact h.ti i q hi hq
  refine ⟨hto, hil, fun hfree => ?_, fun p hp => ?_⟩
  · refine ⟨⟨fun i hi => ?_, fun q hq => ?_⟩, fun i hi hi1 => ?_, fun q hq hq1 => ?_, htiN, ?_⟩
    · by_cases e : i = fm j
      · subst e
        exact .inr ⟨j, up_same .., he, up_same ..⟩
      · rw [up_ne _ _ e]
        rcases h.t1 i hi with h1 | ⟨q, h1, h2, h3, h4⟩
        · exact .inl h1
        · exact .inr ⟨q, h1, h2, by rw [up_ne _ _ h4]; exact h3⟩
    · by_cases e : q = j
      · subst e
        exact .inr ⟨fm q, up_same .., he, up_same ..⟩
      · rw [up_ne _ _ e]
        rcases h.o1 q hq e with h1 | ⟨i, h1, h2, h3⟩
        · exact .inl h1
        · refine .inr ⟨i, h1, h2, ?_⟩
          rw [up_ne _ _ fun e2 => by rw [e2, hto, hfree] at h3; omega]
          exact h3
    · by_cases e : i = fm j
      · rw [e]; exact hfree
      · rw [up_ne _ _ e] at hi1
        exact h.vi i hi hi1
    · by_cases e : q = j
      · subst e; rw [up_same] at hq1; omega
      · rw [up_ne _ _ e] at hq1; exact h.fo q hq e hq1
    · rw [valT_up c to' j hil, hto, hfree, if_neg (by omega)]
      have := h.su
      rw [st_free hfree] at heq
      omega
  · rcases hpar with e0 | ⟨p', e0, hpr, hrkp⟩
    · rw [hp] at e0; omega
    have : p' = p := by omega
    subst this
    have hpn : p' ≠ j := fun e => hne (by rw [hp, e])
    have hpr' := hW.rr p' hpr
    have hofp : of' p' = (fm j : Int) ∧ ∀ i, i < l → to' i = p' → i = fm j := by
      have key : ∀ i, i < l → to' i = p' → of' p' = i := fun i hi h1 => by
        rcases h.t1 i hi with h2 | ⟨q, h2, _, h4, _⟩
        · omega
        · have : q = p' := by omega
          subst this; exact h4
      have h1 := key (fm j) hil (by rw [hto, hp])
      exact ⟨h1, fun i hi h2 => by have := key i hi h2; omega⟩
    refine ⟨hpr', hrkp, ⟨hpr, ?_, fun i hi => ?_, fun q hq hqp => ?_, fun i hi => ?_, fun i hi hi1 => ?_, fun q hq hqp hq1 => ?_, htiN, ?_⟩⟩
    · have hjD := h.jD
      have hfe := hP.fe (fm j) j he
      have ht := hP.ti (fm j) p' hil hp
      rw [st_at hp] at heq
      unfold xs at *; omega
    · by_cases e : i = fm j
      · subst e
        exact .inr ⟨j, up_same .., he, up_same .., Ne.symm hpn⟩
      · rw [up_ne _ _ e]
        rcases h.t1 i hi with h1 | ⟨q, h1, h2, h3, h4⟩
        · exact .inl h1
        · exact .inr ⟨q, h1, h2, by rw [up_ne _ _ h4]; exact h3, fun e2 => e (hofp.2 i hi (by rw [h1, e2]))⟩
    · by_cases e : q = j
      · subst e
        exact .inr ⟨fm q, up_same .., he, up_same ..⟩
      · rw [up_ne _ _ e]
        rcases h.o1 q hq e with h1 | ⟨i, h1, h2, h3⟩
        · exact .inl h1
        · refine .inr ⟨i, h1, h2, ?_⟩
          rw [up_ne _ _ fun e2 => hqp (by rw [e2, hto, hp] at h3; omega)]
          exact h3
    · by_cases e : i = fm j
      · subst e
        exact .inr ⟨p', hp, Nat.le_refl _, hpr⟩
      · rw [up_ne _ _ e]
        rcases h.kp i hi with h1 | ⟨k, h1, h2, h3⟩
        · exact .inl h1
        · exact .inr ⟨k, h1, by omega, h3⟩
    · by_cases e : i = fm j
      · subst e; rw [up_same] at hi1; omega
      · rw [up_ne _ _ e] at hi1; exact h.vi i hi hi1
    · by_cases e : q = j
      · subst e; rw [up_same] at hq1; omega
      · rw [up_ne _ _ e] at hq1; exact h.fo q hq e hq1
    · rw [valT_up c to' j hil, hto, hp, if_pos (by omega), Int.toNat_natCast]
      have := h.su
      rw [st_at hp] at heq
      omega
end
end Go.Proofs.Ytajpngnphbdnnaa.Hung
namespace Go.Proofs.Ytajpngnphbdnnaa.Hung
set_option linter.unusedSimpArgs false
set_option linter.unusedVariables false
theorem perm_sumI' {l k : List Int} (h : l.Perm k) : l.sum = k.sum := by
  induction h with
  | nil => rfl
  | cons x _ ih => simp only [List.sum_cons, ih]
  | swap x y l => simp only [List.sum_cons]; omega
  | trans _ _ h1 h2 => exact h1.trans h2
theorem totL_dual {w : Nat → Nat → Int} {a b : Nat → Int} {p : Nat → Nat} : ∀ {L R : List Nat}, L.Nodup → PrL L R p → (∀ x ∈ L, 0 ≤ a x) → (∀ y ∈ R, 0 ≤ b y) → (∀ x ∈ L, ∀ y ∈ R, w x y ≤ a x + b y) → totL w R p L ≤ (L.map a).sum + (R.map b).sum
  | [], R, _, _, _, hb, _ => by
    have : ∀ R : List Nat, (∀ y ∈ R, 0 ≤ b y) → 0 ≤ (R.map b).sum := fun R => by
      induction R with
      | nil => simp
      | cons y R ih =>
        intro h
        have := ih fun z hz => h z (List.mem_cons_of_mem _ hz)
        have := h y (List.mem_cons_self ..)
        simp only [List.map_cons, List.sum_cons]; omega
    have := this R hb
    simp only [totL, List.map_nil, List.sum_nil]; omega
  | x :: L, R, hn, hp, ha, hb, hw => by
    obtain ⟨n1, n2⟩ := List.nodup_cons.1 hn
    simp only [totL, List.map_cons, List.sum_cons]
    by_cases h : p x ∈ R
    · have ih := totL_dual (w := w) (a := a) (b := b) (p := p) (L := L) (R := R.erase (p x)) n2 (fun u hu v hv h1 h2 => hp u (List.mem_cons_of_mem _ hu) v (List.mem_cons_of_mem _ hv) (List.mem_of_mem_erase h1) h2)
        (fun u hu => ha u (List.mem_cons_of_mem _ hu)) (fun v hv => hb v (List.mem_of_mem_erase hv)) (fun u hu v hv => hw u (List.mem_cons_of_mem _ hu) v (List.mem_of_mem_erase hv))
      have e : totL w (R.erase (p x)) p L = totL w R p L := totL_congr fun y hy => by
        have hne : p y ≠ p x := fun e => n1 ((hp x (List.mem_cons_self ..) y (List.mem_cons_of_mem _ hy) h e.symm) ▸ hy)
        simp only [List.mem_erase_of_ne hne]
      have hs := perm_sumI' ((List.perm_cons_erase h).map b)
      simp only [List.map_cons, List.sum_cons] at hs
      have := hw x (List.mem_cons_self ..) (p x) h
      rw [if_pos h]; omega
    · have ih := totL_dual (w := w) (a := a) (b := b) (p := p) (L := L) (R := R) n2 (fun u hu v hv => hp u (List.mem_cons_of_mem _ hu) v (List.mem_cons_of_mem _ hv))
        (fun u hu => ha u (List.mem_cons_of_mem _ hu)) hb (fun u hu => hw u (List.mem_cons_of_mem _ hu))
      have := ha x (List.mem_cons_self ..)
      rw [if_neg h]; omega
theorem totL_app (w : Nat → Nat → Int) (R : List Nat) (p : Nat → Nat) : ∀ (L K : List Nat), totL w R p (L ++ K) = totL w R p L + totL w R p K
  | [], K => by simp [totL]
  | x :: L, K => by simp only [List.cons_append, totL]; rw [totL_app w R p L K]; omega
theorem totL_filt (w : Nat → Nat → Int) (R : List Nat) (p : Nat → Nat) (q : Nat → Bool) : ∀ n, totL w R p ((List.range n).filter q) = sN (fun i => if q i = true then (if p i ∈ R then w i (p i) else 0) else 0) n
  | 0 => rfl
  | n + 1 => by
    rw [List.range_succ, List.filter_append, totL_app, totL_filt w R p q n]
    simp only [sN]
    by_cases h : q n = true
    · rw [if_pos h, show [n].filter q = [n] by simp [h]]; simp [totL]
    · rw [if_neg h, show [n].filter q = [] by simp [h]]; simp [totL]
theorem map_filt (f : Nat → Int) (q : Nat → Bool) : ∀ n, (((List.range n).filter q).map f).sum = sN (fun i => if q i = true then f i else 0) n
  | 0 => rfl
  | n + 1 => by
    rw [List.range_succ, List.filter_append, List.map_append, List.sum_append, map_filt f q n]
    simp only [sN]
    by_cases h : q n = true
    · rw [if_pos h, show [n].filter q = [n] by simp [h]]; simp
    · rw [if_neg h, show [n].filter q = [] by simp [h]]; simp
/-- The gloves that are not gone. -/
def hre (g : Nat → Bool) (n : Nat) : List Nat := (List.range n).filter fun i => !g i
theorem mem_hre {g : Nat → Bool} {n i : Nat} : i ∈ hre g n ↔ i < n ∧ g i = false := by simp [hre]
section
variable {c : Nat → Nat → Int} {l r : Nat} {gl gr : Nat → Bool} {of to a b gain : Nat → Int} {fm tau : Nat → Nat} {rl : List Nat} {T : Nat} {A D : Int}
theorem worth_at (hM : Mt c l r gl gr of to) (hP : Pc c l r gl gr of to a b 0) : valT c to l = mx (wo c) (hre gl l) (hre gr r) := by
  have hL : (hre gl l).Nodup := List.Pairwise.filter _ List.nodup_range
  have hR : (hre gr r).Nodup := List.Pairwise.filter _ List.nodup_range
  have hinj : ∀ (i i' j : Nat), i < l → i' < l → to i = j → to i' = j → i = i' := fun i i' j hi hi' h h' => by
    rcases hM.t1 i hi with e | ⟨q, e1, _, e2⟩
    · omega
    · rcases hM.t1 i' hi' with e | ⟨q', e3, _, e4⟩
      · omega
      · have : q = q' := by omega
        subst this; omega
  apply Int.le_antisymm
  · obtain ⟨N, hN⟩ := out_of (hre gr r)
    have := mx_ub (wo c) (hre gl l) (hre gr r) (fun i => if 0 ≤ to i then (to i).toNat else N) hL fun x hx x' hx' h1 h2 => by
      simp only at h1 h2
      split at h1
      · rename_i hc
        simp only [hc, if_true] at h2
        split at h2
        · rename_i hc'
          exact hinj x x' (to x).toNat (mem_hre.1 hx).1 (mem_hre.1 hx').1 (by omega) (by omega)
        · rw [h2] at h1; exact absurd h1 hN
      · exact absurd h1 hN
    rw [show hre gl l = (List.range l).filter (fun i => !gl i) from rfl, totL_filt] at this
    refine Int.le_trans (Int.le_of_eq ?_) this
    unfold valT
    refine sN_congr fun i hi => ?_
    rcases hM.t1 i hi with h | ⟨j, h, he, _⟩
    · simp only [h, show ¬ (0 : Int) ≤ -1 by omega, if_false, if_neg hN]
      split <;> rfl
    · have hj : j ∈ hre gr r := mem_hre.2 ⟨he.2.1, he.2.2.2.1⟩
      have hw : wo c i j = Wt c i j := if_neg (by have := he.2.2.2.2; omega)
      simp only [h, he.2.2.1, Int.toNat_natCast, Bool.not_false, if_true, show (0 : Int) ≤ (j : Int) by omega]
      rw [if_pos hj, hw]
  · obtain ⟨p, p1, p2⟩ := mx_at (wo c) (hre gl l) (hre gr r) hL hR
    rw [← p2]
    have hd := totL_dual (w := wo c) (a := a) (b := b) hL p1 (fun x hx => by
      obtain ⟨h1, h2⟩ := mem_hre.1 hx
      exact (hP.aA x h1 h2).1) (fun y hy => by
      obtain ⟨h1, h2⟩ := mem_hre.1 hy
      exact (hP.b0 y h1 h2).1) (fun x hx y hy => by
      obtain ⟨h1, h2⟩ := mem_hre.1 hx
      obtain ⟨h3, h4⟩ := mem_hre.1 hy
      unfold wo
      split
      · have := (hP.aA x h1 h2).1
        have := (hP.b0 y h3 h4).1
        omega
      · exact hP.fe x y ⟨h1, h3, h2, h4, by omega⟩)
    refine Int.le_trans hd ?_
    rw [hre, map_filt, hre, map_filt]
    have h1 : valT c to l = sN (fun i => if (!gl i) = true then a i else 0) l + sN (fun i => if 0 ≤ to i then b (to i).toNat else 0) l := by
      rw [← sN_add]
      unfold valT
      refine sN_congr fun i hi => ?_
      rcases hM.t1 i hi with h | ⟨j, h, he, _⟩
      · simp only [h, show ¬ (0 : Int) ≤ -1 by omega, if_false]
        cases hg : gl i with
        | true => simp
        | false => have := (hP.aA i hi hg).2 h; simp [this]
      · have := hP.ti i j hi h
        simp only [h, he.2.2.1, Int.toNat_natCast, Bool.not_false, if_true, show (0 : Int) ≤ (j : Int) by omega]
        omega
    have h2 := met_le (r := l) (p := fun j => if 0 ≤ of j then (of j).toNat else l) r (fun i => if 0 ≤ to i then b (to i).toNat else 0) (fun j j' hj hj' hlt e => by
      simp only at hlt e
      rcases hM.o1 j hj with h | ⟨i, h, he, ht⟩
      · rw [if_neg (by omega)] at hlt; omega
      · rw [if_pos (by omega)] at hlt e
        rcases hM.o1 j' hj' with h' | ⟨i', h', he', ht'⟩
        · rw [if_neg (by omega)] at e; omega
        · rw [if_pos (by omega)] at e
          have : i = i' := by omega
          subst this; omega) (fun i hi => by
      show 0 ≤ if 0 ≤ to i then b (to i).toNat else 0
      split
      · rcases hM.t1 i hi with h | ⟨j, h, he, _⟩
        · omega
        · rw [h, Int.toNat_natCast]; exact (hP.b0 j he.2.1 he.2.2.2.1).1
      · exact Int.le_refl _)
    have h3 : sN (fun j => if (!gr j) = true then b j else 0) r ≤ sN (fun i => if (if 0 ≤ of i then (of i).toNat else l) < l then (fun i => if 0 ≤ to i then b (to i).toNat else 0) (if 0 ≤ of i then (of i).toNat else l) else 0) r := by
      refine sN_le fun j hj => ?_
      rcases hM.o1 j hj with h | ⟨i, h, he, ht⟩
      · cases hg : gr j with
        | true => simp [h]
        | false => have := (hP.b0 j hj hg).2 h; simp [h, this]
      · have e1 : (if 0 ≤ of j then (of j).toNat else l) = i := by rw [if_pos (by omega)]; omega
        rw [e1, if_pos he.1]
        simp only [ht, he.2.2.2.1, Int.toNat_natCast, Bool.not_false, if_true, show (0 : Int) ≤ (j : Int) by omega]
        exact Int.le_refl _
    rw [h1]
    have h4 := Int.le_trans h3 h2
    omega
theorem worth_max (hM : Mt c l r gl gr of to) (hP : Pc c l r gl gr of to a b A) (hW : Wy c l r gl gr to b A gain fm rl tau T) (hF : Fx c l r gl gr to gain rl) (hno : ∀ j, j < r → gr j = false → of j = -1 → gain j ≤ 0) : valT c to l = mx (wo c) (hre gl l) (hre gr r) := by
  have := hP.move (D := A) hM hW hF hP.A0 (Int.le_refl _) fun j hj hg hf => by
    have h1 := hno j hj hg hf
    have h2 := (hP.b0 j hj hg).2 hf
    unfold xs; omega
  rw [Int.sub_self] at this
  exact worth_at hM this
end
end Go.Proofs.Ytajpngnphbdnnaa.Hung
namespace Go.Proofs.Ytajpngnphbdnnaa.Hung
set_option linter.unusedSimpArgs false
set_option linter.unusedVariables false
section
variable {c : Nat → Nat → Int} {l r : Nat} {gl gr : Nat → Bool} {of to a b gain g0 : Nat → Int} {fm tau : Nat → Nat} {rl rl0 : List Nat} {T : Nat} {A : Int}
theorem Mt.inj (hM : Mt c l r gl gr of to) : ∀ (i i' j : Nat), i < l → i' < l → to i = j → to i' = j → i = i' := fun i i' j hi hi' h h' => by
  rcases hM.t1 i hi with e | ⟨q, e, _, f⟩
  · omega
  · rcases hM.t1 i' hi' with e' | ⟨q', e', _, f'⟩
    · omega
    · have h1 : q = j := by omega
      have h2 : q' = j := by omega
      subst h1 h2; omega
theorem stI_up {i j : Nat} {x : Int} (h : to i ≠ j) : stI c (up gain j x) to i = stI c gain to i := by
  unfold stI
  split
  · rw [up_ne _ _ (by omega)]
  · rfl
theorem Rd.mono {i : Nat} {k : List Nat} (h : Rd to rl i) (hs : ∀ q ∈ rl, q ∈ k) : Rd to k i := by
  rcases h with h | ⟨p, h, hp⟩
  · exact .inl h
  · exact .inr ⟨p, h, hs p hp⟩
theorem Rd.ins {i j : Nat} (h : Rd to rl i) : Rd to (if j ∈ rl then rl else j :: rl) i := h.mono fun q hq => by
  split
  · exact hq
  · exact List.mem_cons_of_mem _ hq
theorem Wy.le (hM : Mt c l r gl gr of to) (hP : Pc c l r gl gr of to a b A) (hW : Wy c l r gl gr to b A gain fm rl tau T) {j : Nat} (hj : j < r) : gain j ≤ 2000000000 := by
  by_cases h : j ∈ rl
  · have := hW.hi j h
    have := hP.b_le hM hj (hW.ed j h).1.2.2.2.1
    have := hP.bA
    omega
  · have := hW.un j hj h; omega
theorem Wy.ge (hW : Wy c l r gl gr to b A gain fm rl tau T) (hr : r ≤ 32) {j : Nat} (hj : j < r) : -1152921504606846976 ≤ gain j := by
  by_cases h : j ∈ rl
  · have := hW.lo j h
    have := hW.len
    omega
  · have := hW.un j hj h; omega
/-- A left glove is reached just if the way up to it gains more than nothing known. -/
theorem Wy.rd (hM : Mt c l r gl gr of to) (hP : Pc c l r gl gr of to a b A) (hW : Wy c l r gl gr to b A gain fm rl tau T) (hc : ∀ i j, c i j ≤ 1000000000) (hr : r ≤ 32) {i : Nat} (hi : i < l) :
    (Rd to rl i ∧ -1000000000 * (rl.length : Int) ≤ stI c gain to i + 1000000000 ∧ -1125899906842624 ≤ stI c gain to i ∧ stI c gain to i ≤ 4000000000) ∨ (¬ Rd to rl i ∧ stI c gain to i < -1125899906842624) := by
  have hn := Int.natCast_nonneg rl.length
  have hl := hW.len
  rcases hM.t1 i hi with h | ⟨p, h, he, _⟩
  · refine .inl ⟨.inl h, ?_⟩
    rw [st_free h]
    omega
  · rw [st_at h]
    have h4 := he.2.2.2.2
    have h5 := hc i p
    have h3 : Wt c i p = 1000000000 - c i p := rfl
    rw [h3]
    by_cases hp : p ∈ rl
    · have h6 := hW.lo p hp
      have h7 := hW.le hM hP he.2.1
      exact .inl ⟨.inr ⟨p, h, hp⟩, by omega, by omega, by omega⟩
    · have := hW.un p he.2.1 hp
      refine .inr ⟨fun hR => ?_, by omega⟩
      rcases hR with e | ⟨q, e, hq⟩
      · omega
      · have : p = q := by omega
        subst this; exact hp hq
def pot (gain : Nat → Int) (r : Nat) : Nat := (sN (fun j => 4000000000 - gain j) r).toNat
theorem pot_up {j : Nat} {x : Int} (hj : j < r) (hle : ∀ q, q < r → gain q ≤ 4000000000) (hx : x ≤ 4000000000) (hlt : gain j < x) : pot (up gain j x) r < pot gain r := by
  have e : (fun q => 4000000000 - up gain j x q) = up (fun q => 4000000000 - gain q) j (4000000000 - x) := by
    funext q
    by_cases e : q = j
    · subst e; rw [up_same, up_same]
    · rw [up_ne _ _ e, up_ne _ _ e]
  unfold pot
  rw [e, sN_up, if_pos hj]
  have h0 : 0 ≤ sN (fun q => 4000000000 - up gain j x q) r := sN_nonneg fun q hq => by
    by_cases e : q = j
    · subst e; rw [up_same]; omega
    · rw [up_ne _ _ e]; have := hle q hq; omega
  rw [e, sN_up, if_pos hj] at h0
  omega
/-- How far one round has come: nothing was bettered and nothing before gains, or something was. -/
def Swp (c : Nat → Nat → Int) (l r : Nat) (gl gr : Nat → Bool) (to g0 : Nat → Int) (rl0 : List Nat) (gain : Nat → Int) (rl : List Nat) (i q : Nat) (ag : Bool) : Prop :=
  (ag = false ∧ gain = g0 ∧ rl = rl0 ∧ ∀ i' j', Ed c l r gl gr i' j' → to i' ≠ j' → Rd to rl i' → (i' < i ∨ i' = i ∧ j' < q) → stI c gain to i' + Wt c i' j' ≤ gain j') ∨ (ag = true ∧ pot gain r < pot g0 r)
theorem Swp.start (g0 : Nat → Int) (rl0 : List Nat) : Swp c l r gl gr to g0 rl0 g0 rl0 0 0 false := .inl ⟨rfl, rfl, rfl, fun _ _ _ _ _ h => by omega⟩
theorem Swp.gone {i : Nat} {ag : Bool} (h : Swp c l r gl gr to g0 rl0 gain rl i 0 ag) (hg : gl i = true ∨ ¬ Rd to rl i) : Swp c l r gl gr to g0 rl0 gain rl (i + 1) 0 ag := by
  rcases h with ⟨h1, h2, h3, h4⟩ | h
  · refine .inl ⟨h1, h2, h3, fun i' j' he hne hR ho => ?_⟩
    rcases Nat.lt_or_ge i' i with hi | hi
    · exact h4 i' j' he hne hR (.inl hi)
    · have : i' = i := by omega
      subst this
      rcases hg with hg | hg
      · rw [he.2.2.1] at hg; cases hg
      · exact absurd hR hg
  · exact .inr h
theorem Swp.row {i : Nat} {ag : Bool} (h : Swp c l r gl gr to g0 rl0 gain rl i r ag) : Swp c l r gl gr to g0 rl0 gain rl (i + 1) 0 ag := by
  rcases h with ⟨h1, h2, h3, h4⟩ | h
  · refine .inl ⟨h1, h2, h3, fun i' j' he hne hR ho => h4 i' j' he hne hR ?_⟩
    have := he.2.1
    omega
  · exact .inr h
theorem Swp.skip {i q : Nat} {ag : Bool} (h : Swp c l r gl gr to g0 rl0 gain rl i q ag) (hg : Ed c l r gl gr i q → to i ≠ q → stI c gain to i + Wt c i q ≤ gain q) : Swp c l r gl gr to g0 rl0 gain rl i (q + 1) ag := by
  rcases h with ⟨h1, h2, h3, h4⟩ | h
  · refine .inl ⟨h1, h2, h3, fun i' j' he hne hR ho => ?_⟩
    by_cases e : i' = i ∧ j' = q
    · obtain ⟨rfl, rfl⟩ := e; exact hg he hne
    · exact h4 i' j' he hne hR (by omega)
  · exact .inr h
theorem Swp.take {i q : Nat} {ag : Bool} {x : Int} {k : List Nat} (h : Swp c l r gl gr to g0 rl0 gain rl i q ag) (hq : q < r) (hle : ∀ q, q < r → gain q ≤ 4000000000) (hx : x ≤ 4000000000) (hlt : gain q < x) : Swp c l r gl gr to g0 rl0 (up gain q x) k i (q + 1) true := by
  have := pot_up hq hle hx hlt
  rcases h with ⟨h1, h2, h3, h4⟩ | h
  · subst h2; exact .inr ⟨rfl, this⟩
  · exact .inr ⟨rfl, by omega⟩
theorem Swp.fx (h : Swp c l r gl gr to g0 rl0 gain rl l 0 false) : Fx c l r gl gr to gain rl := by
  rcases h with ⟨h1, h2, h3, h4⟩ | ⟨h, _⟩
  · exact fun i j he hne hR => h4 i j he hne hR (.inl he.1)
  · cases h
end
end Go.Proofs.Ytajpngnphbdnnaa.Hung
namespace Go.Proofs.Ytajpngnphbdnnaa.Abs
set_option linter.unusedSimpArgs false
set_option linter.unusedVariables false
open Go.RowKit
open Go.Proofs.Ytajpngnphbdnnaa.Sim
open Go.Proofs
/-- A row of truths. -/
def BRow (m : AM) (v : Value) (g : Nat → Bool) (n : Nat) : Prop := ∃ a o, Sl v a o n ∧ a < m.length ∧ ∀ k, k < n → Rd m a (o + k) (.bool (g k))
theorem BRow.old {m : AM} {v : Value} {g : Nat → Bool} {n : Nat} (L : AM) (h : BRow m v g n) : BRow (m ++ L) v g n := by
  obtain ⟨a, o, h1, h2, h3⟩ := h
  exact ⟨a, o, h1, by simp; omega, fun k hk => (h3 k hk).old L⟩
theorem fill_step (z y : Int) (k n : Nat) : tab (Hung.up (fun x => if x < k then z else y) k z) n = tab (fun x => if x < k + 1 then z else y) n := tab_congr fun x hx => by
  simp only [Hung.up]
  by_cases e : x = k
  · subst e; rw [if_pos rfl, if_pos (by omega)]
  · rw [if_neg e]
    by_cases c : x < k
    · rw [if_pos c, if_pos (by omega)]
    · rw [if_neg c, if_neg (by omega)]
theorem fill_all (z y : Int) (n : Nat) : tab (fun x => if x < n then z else y) n = tab (fun _ => z) n := tab_congr fun x hx => if_pos hx
open Hung in
-- function 94
set_option maxHeartbeats 8000000 in
set_option maxRecDepth 100000 in
theorem ways_ok {m : AM} {cv glv grv ofv tov : Value} {c : Nat → Nat → Int} {l r : Nat} {gl gr : Nat → Bool} {of to a b : Nat → Int} {A : Int} (hT : RT m cv c l r) (hc : Cs c) (hl : l ≤ 32) (hr : r ≤ 32) (hgl : BRow m glv gl l) (hgr : BRow m grv gr r)
    (hof : Ints m ofv (tab of r)) (hto : Ints m tov (tab to l)) (hM : Mt c l r gl gr of to) (hP : Pc c l r gl gr of to a b A) :
    ACall Try.prog 94 #[cv, glv, grv, ofv, tov] m (More (fun M v => ∃ (gain : Nat → Int) (fm : Nat → Nat) (rl : List Nat) (tau : Nat → Nat) (T : Nat), v = .tuple #[.slice (some ⟨m.length + 0, 0, none⟩) r r, .slice (some ⟨m.length + 1, 0, none⟩) r r] ∧
      M = m ++ [some { cells := iv (tab gain r) }, some { cells := iv (tab (fun z => ((fm z : Nat) : Int)) r) }] ∧ Wy c l r gl gr to b A gain fm rl tau T ∧ Fx c l r gl gr to gain rl) m) := by
  obtain ⟨cb, co, c1, c2, c3⟩ := id hT
  obtain ⟨la, lo, l1, l2, l3⟩ := id hgl
  obtain ⟨ra, ro, r1, r2, r3⟩ := id hgr
  obtain ⟨fa, fo, f1, f2, f3⟩ := id hof
  obtain ⟨ta, tq, t1, t2, t3⟩ := id hto
  rw [tab_len] at f1 f3 t1 t3
  have hc9 : ∀ i j, c i j ≤ 1000000000 := fun i j => by have := hc i j; omega
  refine ACall.start Try.func94 rfl rfl ?_
  (repeat (first | (with_reducible refine AWo.cons ?_) | ((with_reducible refine Step.id ?_); ((with_reducible apply Step.assign); exact rfl; exact rfl)) | (with_reducible refine AWo.nil ?_) | ((fail_if_success (with_reducible refine AW.atR (id := 1) ?_)); ((with_reducible apply AW.seq))) | ((with_reducible apply Then.n)) | ((with_reducible apply AW.regL))))
  refine AW.joinG (fr [(0, cv), (1, glv), (2, grv), (3, ofv), (4, tov), (12, .slice (some ⟨m.length + 0, 0, none⟩) r r), (13, .slice (some ⟨m.length + 1, 0, none⟩) r r)]) (m ++ [some { cells := iv (List.replicate r 0) }, some { cells := iv (List.replicate r 0) }]) ?_ ?_
  · (repeat' (first | ((with_reducible refine Step.id ?_); first | ((with_reducible apply Step.move); exact rfl; exact rfl) | ((with_reducible apply Step.assign); exact rfl; exact rfl) | ((with_reducible apply Step.len); exact rfl; (focus (assumption)); (focus (decide +kernel)); exact rfl) | ((with_reducible apply Step.make1 0); exact rfl; exact rfl; exact rfl; exact el27; (focus (omega)); exact rfl; (focus (first | (simp only [List.nil_append, List.cons_append, List.set_cons_zero, List.set_cons_succ, iv_set, bv_set, iv_rep, bv_rep]; done) | (simp only [List.nil_append, List.cons_append, List.set_cons_zero, List.set_cons_succ, iv_set, bv_set, iv_rep, bv_rep]; rfl) | rfl))) | ((with_reducible apply Step.make1 1); exact rfl; exact rfl; exact rfl; exact el27; (focus (omega)); exact rfl; (focus (first | (simp only [List.nil_append, List.cons_append, List.set_cons_zero, List.set_cons_succ, iv_set, bv_set, iv_rep, bv_rep]; done) | (simp only [List.nil_append, List.cons_append, List.set_cons_zero, List.set_cons_succ, iv_set, bv_set, iv_rep, bv_rep]; rfl) | rfl)))) | ((with_reducible apply Then.n)) | ((with_reducible apply AW.drawT fit (T := (.step 0 (.step 1 (.step 3 (.step 4 (.both (.step 2 (.step 6 (.step 5 (.step 7 .done)))) (.step 5 (.step 2 (.step 6 (.step 7 .done))))))))))); (focus (decide +kernel))) | ((with_reducible apply AWt.step); exact rfl) | ((with_reducible apply AWt.done)) | refine AWt.both ?_ ?_))
    all_goals first | (refine Gc.perm [0,1] rfl (by decide) ?_ (CellsOk.ren ?_) ?_; (focus (intro p hp; rcases p with _ | _ | p <;> first | rfl | exact absurd hp (lenB (n := 2) rfl))); (focus (repeat (first | exact CellsOk.nil | refine CellsOk.cons (by exact g0_iv _) ?_))); (focus ((repeat (first | exact trivial | (refine And.intro ⟨_, rfl, ?_⟩ ?_; (focus (first | (refine Ren.slice_sg ?_; (focus (first | (simp; done) | omega | (simp; omega)))) | (refine Ren.of_sl_sg (by assumption) ?_ ?_; (focus (first | (simp; done) | omega | (simp; omega))); (focus (simp; done)))))))); done))) | (refine Gc.perm [1,0] rfl (by decide) ?_ (CellsOk.ren ?_) ?_; (focus (intro p hp; rcases p with _ | _ | p <;> first | rfl | exact absurd hp (lenB (n := 2) rfl))); (focus (repeat (first | exact CellsOk.nil | refine CellsOk.cons (by exact g0_iv _) ?_))); (focus ((repeat (first | exact trivial | (refine And.intro ⟨_, rfl, ?_⟩ ?_; (focus (first | (refine Ren.slice_sg ?_; (focus (first | (simp; done) | omega | (simp; omega)))) | (refine Ren.of_sl_sg (by assumption) ?_ ?_; (focus (first | (simp; done) | omega | (simp; omega))); (focus (simp; done)))))))); done)))
  (repeat (first | (with_reducible refine AWo.cons ?_) | ((with_reducible refine Step.id ?_); first | ((with_reducible apply Step.move); exact rfl; exact rfl) | ((with_reducible apply Step.len); exact rfl; (focus (exact Sl.mk (by omega))); (focus (decide +kernel)); exact rfl)) | (with_reducible refine AWo.nil ?_) | ((with_reducible apply AW.seq)) | ((with_reducible apply Then.n)) | ((with_reducible apply AW.regL)) | ((with_reducible apply AW.block))))
  refine AW.loopT (fun rk t L => ∃ k : Nat, rk = r - k ∧ k ≤ r ∧ L = [some { cells := iv (tab (fun x => if x < k then -1152921504606846976 else 0) r) }, some { cells := iv (tab (fun _ => 0) r) }] ∧ t = [(0, cv), (1, glv), (2, grv), (3, ofv), (4, tov), (12, .slice (some ⟨m.length + 0, 0, none⟩) r r), (13, .slice (some ⟨m.length + 1, 0, none⟩) r r), (26, .slice (some ⟨m.length + 0, 0, none⟩) r r), (27, .int .i64 (r : Nat)), (28, .int .i64 (k : Nat))])
    ⟨_, _, [some { cells := iv (List.replicate r 0) }, some { cells := iv (List.replicate r 0) }], (Or.inl ⟨rfl, (by repeat (first | exact trivial | (refine And.intro rfl ?_)))⟩), 0, rfl, Nat.zero_le _, by simp only [tab_rep]; simp, rfl⟩ ?_
  · rintro rk t L ⟨k, rfl, hk, rfl, rfl⟩
    rcases Nat.lt_or_ge k r with hkl | hkg
    · (repeat (first | (with_reducible refine AWo.cons ?_) | ((with_reducible refine Step.id ?_); first | ((with_reducible apply Step.move); exact rfl; exact rfl) | ((with_reducible apply Step.assign); exact rfl; exact rfl) | ((with_reducible apply Step.ix1z); exact rfl; (focus (exact Sl.mk (by omega))); exact rfl; (focus (decide +kernel)); exact rfl; (focus (omega))) | ((with_reducible apply Step.add); exact rfl; exact rfl; (focus (omega)); exact rfl) | ((with_reducible apply Step.lss); exact rfl; exact rfl; exact rfl) | ((with_reducible apply Step.store (k := 0)); exact rfl; exact rfl; exact rfl; exact rfl; (focus (decide +kernel)); exact rfl; exact rfl; (focus (first | omega | (simp [iv, bv]; done) | (simp [iv, bv]; omega))); (focus (first | (simp only [List.nil_append, List.cons_append, List.set_cons_zero, List.set_cons_succ, iv_set, bv_set, iv_rep, bv_rep]; done) | (simp only [List.nil_append, List.cons_append, List.set_cons_zero, List.set_cons_succ, iv_set, bv_set, iv_rep, bv_rep]; rfl) | rfl)))) | (with_reducible refine AWo.nil ?_) | ((with_reducible apply AW.seq)) | ((with_reducible apply Then.n)) | ((with_reducible apply AW.regL)) | ((with_reducible apply AW.block)) | ((with_reducible apply InBlk.n)) | ((with_reducible apply AW.skip)) | ((with_reducible apply AW.condT); exact rfl; (focus ((simp only [decide_eq_true_eq, decide_eq_false_iff_not, Bool.not_eq_true', Bool.not_eq_false', Bool.not_true, Bool.not_false]; first | assumption | omega))))))
      refine ⟨_, _, [some { cells := iv (tab (fun x => if x < k + 1 then -1152921504606846976 else 0) r) }, some { cells := iv (tab (fun _ => 0) r) }], by omega, by rw [tab_set, fill_step]; exact (Or.inl ⟨rfl, (by repeat (first | exact trivial | (refine And.intro rfl ?_)))⟩), k + 1, rfl, by omega, rfl, rfl⟩
    · have hkr : k = r := by omega
      subst k
      rw [fill_all]
      (repeat (first | (with_reducible refine AWo.cons ?_) | ((with_reducible refine Step.id ?_); first | ((with_reducible apply Step.assign); exact rfl; exact rfl) | ((with_reducible apply Step.lss); exact rfl; exact rfl; exact rfl)) | (with_reducible refine AWo.nil ?_) | ((with_reducible apply AW.seq)) | ((with_reducible apply Then.n)) | ((with_reducible apply AW.regL)) | ((with_reducible apply AW.block)) | ((with_reducible apply AW.exit)) | ((with_reducible apply InBlk.hit)) | ((with_reducible apply Then.e)) | ((with_reducible apply AW.condF); exact rfl; (focus ((simp only [decide_eq_true_eq, decide_eq_false_iff_not, Bool.not_eq_true', Bool.not_eq_false', Bool.not_true, Bool.not_false]; first | assumption | omega))))))
      refine AW.loopT (fun rk t L => ∃ (gain : Nat → Int) (fm : Nat → Nat) (rl : List Nat) (tau : Nat → Nat) (T : Nat) (ag : Bool), rk = (if ag = true then pot gain r + 1 else 0) ∧ Wy c l r gl gr to b A gain fm rl tau T ∧ (ag = false → Fx c l r gl gr to gain rl) ∧ L = [some { cells := iv (tab (gain) r) }, some { cells := iv (tab (fun z => ((fm z : Nat) : Int)) r) }] ∧ t = [(0, cv), (1, glv), (2, grv), (3, ofv), (4, tov), (12, .slice (some ⟨m.length + 0, 0, none⟩) r r), (13, .slice (some ⟨m.length + 1, 0, none⟩) r r), (15, .bool ag)])
        ⟨_, _, _, (Or.inl ⟨rfl, (by repeat (first | exact trivial | (refine And.intro rfl ?_)))⟩), fun _ => -1152921504606846976, fun _ => 0, [], fun _ => 0, 1, true, rfl, Wy.start to b A (fun _ => 0), fun h => (by cases h), rfl, rfl⟩ ?_
      rintro rk t L ⟨gain, fm, rl, tau, T, ag, rfl, hW, hF, rfl, rfl⟩
      cases ag with
      | false =>
        have hF := hF rfl
        (repeat (first | (with_reducible refine AWo.cons ?_) | ((with_reducible refine Step.id ?_); first | ((with_reducible apply Step.move); exact rfl; exact rfl) | ((with_reducible apply Step.assign); exact rfl; exact rfl)) | (with_reducible refine AWo.nil ?_) | ((with_reducible apply AW.seq)) | ((with_reducible apply Then.n)) | ((with_reducible apply AW.regL)) | ((with_reducible apply AW.exit)) | ((with_reducible apply InBlk.hit)) | ((with_reducible apply Then.e)) | ((with_reducible apply AW.condF); exact rfl; (focus (rfl)))))
        (refine AW.ret ?_; (repeat (first | refine Then.r ?_ | refine InBlk.r ?_)))
        exact ⟨_, rfl, _, rfl, gain, fm, rl, tau, T, rfl, rfl, hW, hF⟩
      | true =>
        (repeat (first | (with_reducible refine AWo.cons ?_) | ((with_reducible refine Step.id ?_); first | ((with_reducible apply Step.move); exact rfl; exact rfl) | ((with_reducible apply Step.assign); exact rfl; exact rfl) | ((with_reducible apply Step.len); exact rfl; (focus (assumption)); (focus (decide +kernel)); exact rfl)) | (with_reducible refine AWo.nil ?_) | ((with_reducible apply AW.seq)) | ((with_reducible apply Then.n)) | ((with_reducible apply AW.regL)) | ((with_reducible apply AW.block)) | ((with_reducible apply AW.skip)) | ((with_reducible apply AW.condT); exact rfl; (focus (rfl)))))
        refine AW.loopT (fun rk t L => ∃ (i : Nat) (g2 : Nat → Int) (fm : Nat → Nat) (rl2 : List Nat) (tau : Nat → Nat) (T : Nat) (ag : Bool), rk = l - i ∧ i ≤ l ∧ Wy c l r gl gr to b A g2 fm rl2 tau T ∧ Swp c l r gl gr to gain rl g2 rl2 i 0 ag ∧ L = [some { cells := iv (tab (g2) r) }, some { cells := iv (tab (fun z => ((fm z : Nat) : Int)) r) }] ∧ t = [(0, cv), (1, glv), (2, grv), (3, ofv), (4, tov), (12, .slice (some ⟨m.length + 0, 0, none⟩) r r), (13, .slice (some ⟨m.length + 1, 0, none⟩) r r), (15, .bool ag), (36, cv), (37, .int .i64 (l : Nat)), (38, .int .i64 (i : Nat))])
          ⟨_, _, _, (Or.inl ⟨rfl, (by repeat (first | exact trivial | (refine And.intro rfl ?_)))⟩), 0, gain, fm, rl, tau, T, false, rfl, Nat.zero_le _, hW, Swp.start _ _, rfl, rfl⟩ ?_
        clear hW hF fm tau T
        rintro rk t L ⟨i, g2, fm, rl2, tau, T, ag, rfl, hi, hW, hS, rfl, rfl⟩
        rcases Nat.lt_or_ge i l with hil | hig
        · have l4 := l3 i hil
          cases hgi : gl i with
          | true =>
            rw [hgi] at l4
            (repeat (first | (with_reducible refine AWo.cons ?_) | ((with_reducible refine Step.id ?_); first | ((with_reducible apply Step.move); exact rfl; exact rfl) | ((with_reducible apply Step.assign); exact rfl; exact rfl) | ((with_reducible apply Step.load); exact rfl; (focus (decide +kernel)); exact rfl; (focus (exact l4.old _))) | ((with_reducible apply Step.ix1); exact rfl; (focus (assumption)); exact rfl; (focus (decide +kernel)); exact rfl; (focus (omega))) | ((with_reducible apply Step.add); exact rfl; exact rfl; (focus (omega)); exact rfl) | ((with_reducible apply Step.lss); exact rfl; exact rfl; exact rfl)) | (with_reducible refine AWo.nil ?_) | ((with_reducible apply AW.seq)) | ((with_reducible apply Then.n)) | ((with_reducible apply AW.regL)) | ((with_reducible apply AW.block)) | ((with_reducible apply AW.exit)) | ((with_reducible apply InBlk.hit)) | ((with_reducible apply Then.e)) | ((with_reducible apply AW.skip)) | ((with_reducible apply AW.condT); exact rfl; (focus (first | rfl | (simp only [decide_eq_true_eq, decide_eq_false_iff_not, Bool.not_eq_true', Bool.not_eq_false', Bool.not_true, Bool.not_false]; first | assumption | omega))))))
            exact ⟨_, _, _, by omega, (Or.inl ⟨rfl, (by repeat (first | exact trivial | (refine And.intro rfl ?_)))⟩), i + 1, g2, fm, rl2, tau, T, ag, rfl, by omega, hW, hS.gone (.inl hgi), rfl, rfl⟩
          | false =>
            rw [hgi] at l4
            have t4 := t3 i hil
            rw [tab_get to hil] at t4
            have hrd := hW.rd hM hP hc9 hr hil
            have hto' := hM.t1 i hil
            obtain ⟨w, k1, b', o', k2, k3, k4⟩ := c3 i hil
            rw [tab_len] at k2 k4
            by_cases hti : to i = -1
            · rw [st_free hti] at hrd
              rcases hrd with ⟨hR, hb1, hb2, hb3⟩ | ⟨_, hb1⟩
              · have hst : stI c g2 to i = 0 := st_free hti
                rw [hti] at t4
                (repeat (first | (with_reducible refine AWo.cons ?_) | ((with_reducible refine Step.id ?_); first | ((with_reducible apply Step.move); exact rfl; exact rfl) | ((with_reducible apply Step.assign); exact rfl; exact rfl) | ((with_reducible apply Step.load); exact rfl; (focus (decide +kernel)); exact rfl; (focus (first | exact l4.old _ | exact t4.old _))) | ((with_reducible apply Step.ix1); exact rfl; (focus (assumption)); exact rfl; (focus (decide +kernel)); exact rfl; (focus (omega))) | ((with_reducible apply Step.lss); exact rfl; exact rfl; exact rfl) | ((with_reducible apply Step.geq); exact rfl; exact rfl; exact rfl) | ((with_reducible apply Step.len); exact rfl; (focus (assumption)); (focus (decide +kernel)); exact rfl)) | (with_reducible refine AWo.nil ?_) | ((with_reducible apply AW.seq)) | ((with_reducible apply Then.n)) | ((with_reducible apply AW.regL)) | ((with_reducible apply AW.block)) | ((with_reducible apply AW.skip)) | ((with_reducible apply AW.condT); exact rfl; (focus ((simp only [decide_eq_true_eq, decide_eq_false_iff_not, Bool.not_eq_true', Bool.not_eq_false', Bool.not_true, Bool.not_false]; first | assumption | omega)))) | ((with_reducible apply AW.condF); exact rfl; (focus (rfl)))))
                refine AW.loopT (fun rk t L => ∃ (q : Nat) (g3 : Nat → Int) (fm : Nat → Nat) (rl3 : List Nat) (tau : Nat → Nat) (T : Nat) (ag : Bool), rk = r - q ∧ q ≤ r ∧ Wy c l r gl gr to b A g3 fm rl3 tau T ∧ Swp c l r gl gr to gain rl g3 rl3 i q ag ∧ stI c g3 to i = 0 ∧ Hung.Rd to rl3 i ∧ -1000000000 * (rl3.length : Int) ≤ 0 + 1000000000 ∧ L = [some { cells := iv (tab (g3) r) }, some { cells := iv (tab (fun z => ((fm z : Nat) : Int)) r) }] ∧ t = [(0, cv), (1, glv), (2, grv), (3, ofv), (4, tov), (12, .slice (some ⟨m.length + 0, 0, none⟩) r r), (13, .slice (some ⟨m.length + 1, 0, none⟩) r r), (15, .bool ag), (36, cv), (37, .int .i64 (l : Nat)), (38, .int .i64 (i : Nat)), (16, .int .i64 (i : Nat)), (17, .int .i64 0), (71, ofv), (72, .int .i64 (r : Nat)), (73, .int .i64 (q : Nat))])
                  ⟨_, _, _, (Or.inl ⟨rfl, (by repeat (first | exact trivial | (refine And.intro rfl ?_)))⟩), 0, g2, fm, rl2, tau, T, ag, rfl, Nat.zero_le _, hW, hS, hst, hR, hb1, rfl, rfl⟩ ?_
                clear hW hS hst hR hb1 fm tau T ag
                rintro rk t L ⟨q, g3, fm, rl3, tau, T, ag, rfl, hq, hW, hS, hst, hR, hb1, rfl, rfl⟩
                rcases Nat.lt_or_ge q r with hqr | hqg
                · have r4 := r3 q hqr
                  have k5 := k4 q hqr
                  rw [tab_get (c i) hqr] at k5
                  have hcq := hc i q
                  have hg3 := hW.le hM hP hqr
                  have hg3' := hW.ge hr hqr
                  have g5 : ∀ X : AM, Rd (m ++ (some { cells := iv (tab g3 r) } :: X)) (m.length + 0) q (.int .i64 (g3 q)) := fun X => by rw [← tab_get g3 hqr]; exact Rd.new rfl (iv_get (by simp; omega))
                  cases hgq : gr q with
                  | true =>
                    rw [hgq] at r4
                    (repeat (first | (with_reducible refine AWo.cons ?_) | ((with_reducible refine Step.id ?_); first | ((with_reducible apply Step.gdF); exact rfl; exact rfl; (focus (rfl))) | ((with_reducible apply Step.move); exact rfl; exact rfl) | ((with_reducible apply Step.assign); exact rfl; exact rfl) | ((with_reducible apply Step.load); exact rfl; (focus (decide +kernel)); exact rfl; (focus (exact r4.old _))) | ((with_reducible apply Step.ix1); exact rfl; (focus (assumption)); exact rfl; (focus (decide +kernel)); exact rfl; (focus (omega))) | ((with_reducible apply Step.add); exact rfl; exact rfl; (focus (omega)); exact rfl) | ((with_reducible apply Step.lss); exact rfl; exact rfl; exact rfl) | ((with_reducible apply Step.pickT); exact rfl; exact rfl; exact rfl; exact rfl; (focus (rfl)))) | (with_reducible refine AWo.nil ?_) | ((with_reducible apply AW.seq)) | ((with_reducible apply Then.n)) | ((with_reducible apply AW.regL)) | ((with_reducible apply AW.block)) | ((with_reducible apply AW.exit)) | ((with_reducible apply InBlk.hit)) | ((with_reducible apply Then.e)) | ((with_reducible apply AW.skip)) | ((with_reducible apply AW.condT); exact rfl; (focus (first | rfl | (simp only [decide_eq_true_eq, decide_eq_false_iff_not, Bool.not_eq_true', Bool.not_eq_false', Bool.not_true, Bool.not_false]; first | assumption | omega))))))
                    exact ⟨_, _, _, by omega, (Or.inl ⟨rfl, (by repeat (first | exact trivial | (refine And.intro rfl ?_)))⟩), q + 1, g3, fm, rl3, tau, T, ag, rfl, by omega, hW, hS.skip fun he => (by rw [he.2.2.2.1] at hgq; cases hgq), hst, hR, hb1, rfl, rfl⟩
                  | false =>
                    rw [hgq] at r4
                    by_cases hcn : c i q < 0
                    · (repeat (first | (with_reducible refine AWo.cons ?_) | ((with_reducible refine Step.id ?_); first | ((with_reducible apply Step.gdT); exact rfl; exact rfl; (focus (rfl))) | ((with_reducible apply Step.gdF); exact rfl; exact rfl; (focus ((simp only [decide_eq_true_eq, decide_eq_false_iff_not, Bool.not_eq_true', Bool.not_eq_false', Bool.not_true, Bool.not_false]; first | assumption | omega)))) | ((with_reducible apply Step.move); exact rfl; exact rfl) | ((with_reducible apply Step.assign); exact rfl; exact rfl) | ((with_reducible apply Step.load); exact rfl; (focus (decide +kernel)); exact rfl; (focus (first | exact r4.old _ | exact k1.old _ | exact k5.old _))) | ((with_reducible apply Step.ix1); exact rfl; (focus (assumption)); exact rfl; (focus (decide +kernel)); exact rfl; (focus (omega))) | ((with_reducible apply Step.add); exact rfl; exact rfl; (focus (omega)); exact rfl) | ((with_reducible apply Step.lss); exact rfl; exact rfl; exact rfl) | ((with_reducible apply Step.pickT); exact rfl; exact rfl; exact rfl; exact rfl; (focus ((simp only [decide_eq_true_eq, decide_eq_false_iff_not, Bool.not_eq_true', Bool.not_eq_false', Bool.not_true, Bool.not_false]; first | assumption | omega)))) | ((with_reducible apply Step.pickF); exact rfl; exact rfl; exact rfl; exact rfl; (focus (rfl)))) | (with_reducible refine AWo.nil ?_) | ((with_reducible apply AW.seq)) | ((with_reducible apply Then.n)) | ((with_reducible apply AW.regL)) | ((with_reducible apply AW.block)) | ((with_reducible apply AW.exit)) | ((with_reducible apply InBlk.hit)) | ((with_reducible apply Then.e)) | ((with_reducible apply AW.skip)) | ((with_reducible apply AW.condT); exact rfl; (focus (first | rfl | (simp only [decide_eq_true_eq, decide_eq_false_iff_not, Bool.not_eq_true', Bool.not_eq_false', Bool.not_true, Bool.not_false]; first | assumption | omega))))))
                      exact ⟨_, _, _, by omega, (Or.inl ⟨rfl, (by repeat (first | exact trivial | (refine And.intro rfl ?_)))⟩), q + 1, g3, fm, rl3, tau, T, ag, rfl, by omega, hW, hS.skip fun he => absurd hcn (by have := he.2.2.2.2; omega), hst, hR, hb1, rfl, rfl⟩
                    · by_cases hte : to i = (q : Int)
                      · exact absurd hte (by omega)
                      · skip
                        have hed : Ed c l r gl gr i q := ⟨hil, hqr, hgi, hgq, by omega⟩
                        have hwt : stI c g3 to i + Wt c i q = 0 + 1000000000 - c i q := by rw [hst]; unfold Wt; omega
                        by_cases hgt : g3 q < 0 + 1000000000 - c i q
                        · (repeat (first | (with_reducible refine AWo.cons ?_) | ((with_reducible refine Step.id ?_); first | ((with_reducible apply Step.gdT); exact rfl; exact rfl; (focus (first | rfl | (simp only [decide_eq_true_eq, decide_eq_false_iff_not, Bool.not_eq_true', Bool.not_eq_false', Bool.not_true, Bool.not_false]; first | assumption | omega)))) | ((with_reducible apply Step.move); exact rfl; exact rfl) | ((with_reducible apply Step.assign); exact rfl; exact rfl) | ((with_reducible apply Step.load); exact rfl; (focus (decide +kernel)); exact rfl; (focus (first | exact r4.old _ | exact k1.old _ | exact k5.old _ | exact t4.old _ | exact g5 _))) | ((with_reducible apply Step.ix1z); exact rfl; (focus (exact Sl.mk (by omega))); exact rfl; (focus (decide +kernel)); exact rfl; (focus (omega))) | ((with_reducible apply Step.ix1); exact rfl; (focus (assumption)); exact rfl; (focus (decide +kernel)); exact rfl; (focus (omega))) | ((with_reducible apply Step.add); exact rfl; exact rfl; (focus (omega)); exact rfl) | ((with_reducible apply Step.sub); exact rfl; exact rfl; (focus (omega)); exact rfl) | ((with_reducible apply Step.lss); exact rfl; exact rfl; exact rfl) | ((with_reducible apply Step.gtr); exact rfl; exact rfl; exact rfl) | ((with_reducible apply Step.eql); exact rfl; exact rfl; exact rfl) | ((with_reducible apply Step.pickF); exact rfl; exact rfl; exact rfl; exact rfl; (focus (first | rfl | (simp only [decide_eq_true_eq, decide_eq_false_iff_not, Bool.not_eq_true', Bool.not_eq_false', Bool.not_true, Bool.not_false]; first | assumption | omega)))) | ((with_reducible apply Step.store (k := 0)); exact rfl; exact rfl; exact rfl; exact rfl; (focus (decide +kernel)); exact rfl; exact rfl; (focus (first | omega | (simp [iv, bv]; done) | (simp [iv, bv]; omega))); (focus (first | (simp only [List.nil_append, List.cons_append, List.set_cons_zero, List.set_cons_succ, iv_set, bv_set, iv_rep, bv_rep]; done) | (simp only [List.nil_append, List.cons_append, List.set_cons_zero, List.set_cons_succ, iv_set, bv_set, iv_rep, bv_rep]; rfl) | rfl))) | ((with_reducible apply Step.store (k := 1)); exact rfl; exact rfl; exact rfl; exact rfl; (focus (decide +kernel)); exact rfl; exact rfl; (focus (first | omega | (simp [iv, bv]; done) | (simp [iv, bv]; omega))); (focus (first | (simp only [List.nil_append, List.cons_append, List.set_cons_zero, List.set_cons_succ, iv_set, bv_set, iv_rep, bv_rep]; done) | (simp only [List.nil_append, List.cons_append, List.set_cons_zero, List.set_cons_succ, iv_set, bv_set, iv_rep, bv_rep]; rfl) | rfl)))) | (with_reducible refine AWo.nil ?_) | ((with_reducible apply AW.seq)) | ((with_reducible apply Then.n)) | ((with_reducible apply AW.regL)) | ((with_reducible apply AW.block)) | ((with_reducible apply InBlk.n)) | ((with_reducible apply AW.skip)) | ((with_reducible apply AW.condT); exact rfl; (focus ((simp only [decide_eq_true_eq, decide_eq_false_iff_not, Bool.not_eq_true', Bool.not_eq_false', Bool.not_true, Bool.not_false]; first | assumption | omega)))) | ((with_reducible apply AW.condF); exact rfl; (focus (rfl)))))
                          have hW' := hW.step hP hM.inj hed hte hR (by rw [hwt]; exact hgt) (by rw [hst]; exact hb1) (by unfold Wt; omega)
                          rw [hwt] at hW'
                          refine ⟨_, _, [some { cells := iv (tab (up g3 q (0 + 1000000000 - c i q)) r) }, some { cells := iv (tab (fun z => (((up fm q i) z : Nat) : Int)) r) }], by omega, by rw [tab_set, tab_set, up_cast]; exact (Or.inl ⟨rfl, (by repeat (first | exact trivial | (refine And.intro rfl ?_)))⟩), q + 1, _, up fm q i, _, _, _, true, rfl, by omega, hW', hS.take hqr (fun x hx => by have := hW.le hM hP hx; omega) (by omega) hgt, by rw [stI_up hte]; exact hst, hR.ins, ?_, rfl, rfl⟩
                          split
                          · exact hb1
                          · simp only [List.length_cons]; omega
                        · (repeat (first | (with_reducible refine AWo.cons ?_) | ((with_reducible refine Step.id ?_); first | ((with_reducible apply Step.gdT); exact rfl; exact rfl; (focus (first | rfl | (simp only [decide_eq_true_eq, decide_eq_false_iff_not, Bool.not_eq_true', Bool.not_eq_false', Bool.not_true, Bool.not_false]; first | assumption | omega)))) | ((with_reducible apply Step.move); exact rfl; exact rfl) | ((with_reducible apply Step.assign); exact rfl; exact rfl) | ((with_reducible apply Step.load); exact rfl; (focus (decide +kernel)); exact rfl; (focus (first | exact r4.old _ | exact k1.old _ | exact k5.old _ | exact t4.old _ | exact g5 _))) | ((with_reducible apply Step.ix1z); exact rfl; (focus (exact Sl.mk (by omega))); exact rfl; (focus (decide +kernel)); exact rfl; (focus (omega))) | ((with_reducible apply Step.ix1); exact rfl; (focus (assumption)); exact rfl; (focus (decide +kernel)); exact rfl; (focus (omega))) | ((with_reducible apply Step.add); exact rfl; exact rfl; (focus (omega)); exact rfl) | ((with_reducible apply Step.sub); exact rfl; exact rfl; (focus (omega)); exact rfl) | ((with_reducible apply Step.lss); exact rfl; exact rfl; exact rfl) | ((with_reducible apply Step.gtr); exact rfl; exact rfl; exact rfl) | ((with_reducible apply Step.eql); exact rfl; exact rfl; exact rfl) | ((with_reducible apply Step.pickF); exact rfl; exact rfl; exact rfl; exact rfl; (focus (first | rfl | (simp only [decide_eq_true_eq, decide_eq_false_iff_not, Bool.not_eq_true', Bool.not_eq_false', Bool.not_true, Bool.not_false]; first | assumption | omega))))) | (with_reducible refine AWo.nil ?_) | ((with_reducible apply AW.seq)) | ((with_reducible apply Then.n)) | ((with_reducible apply AW.regL)) | ((with_reducible apply AW.block)) | ((with_reducible apply InBlk.n)) | ((with_reducible apply AW.skip)) | ((with_reducible apply AW.condT); exact rfl; (focus ((simp only [decide_eq_true_eq, decide_eq_false_iff_not, Bool.not_eq_true', Bool.not_eq_false', Bool.not_true, Bool.not_false]; first | assumption | omega)))) | ((with_reducible apply AW.condF); exact rfl; (focus (first | rfl | (simp only [decide_eq_true_eq, decide_eq_false_iff_not, Bool.not_eq_true', Bool.not_eq_false', Bool.not_true, Bool.not_false]; first | assumption | omega))))))
                          exact ⟨_, _, _, by omega, (Or.inl ⟨rfl, (by repeat (first | exact trivial | (refine And.intro rfl ?_)))⟩), q + 1, g3, fm, rl3, tau, T, ag, rfl, by omega, hW, hS.skip fun _ _ => by rw [hwt]; omega, hst, hR, hb1, rfl, rfl⟩
                · have hqr : q = r := by omega
                  subst q
                  (repeat (first | (with_reducible refine AWo.cons ?_) | ((with_reducible refine Step.id ?_); first | ((with_reducible apply Step.move); exact rfl; exact rfl) | ((with_reducible apply Step.add); exact rfl; exact rfl; (focus (omega)); exact rfl) | ((with_reducible apply Step.lss); exact rfl; exact rfl; exact rfl)) | (with_reducible refine AWo.nil ?_) | ((with_reducible apply AW.seq)) | ((with_reducible apply Then.n)) | ((with_reducible apply AW.regL)) | ((with_reducible apply AW.exit)) | ((with_reducible apply InBlk.n)) | ((with_reducible apply InBlk.hit)) | ((with_reducible apply Then.e)) | ((with_reducible apply AW.condF); exact rfl; (focus ((simp only [decide_eq_true_eq, decide_eq_false_iff_not, Bool.not_eq_true', Bool.not_eq_false', Bool.not_true, Bool.not_false]; first | assumption | omega))))))
                  exact ⟨_, _, _, by omega, (Or.inl ⟨rfl, (by repeat (first | exact trivial | (refine And.intro rfl ?_)))⟩), i + 1, g3, fm, rl3, tau, T, ag, rfl, by omega, hW, hS.row, rfl, rfl⟩
              · exact absurd hb1 (by omega)
            · obtain ⟨p, hp, he, _⟩ := hto'.resolve_left hti
              have hpr : p < r := he.2.1
              have hg2p := hW.le hM hP hpr
              have hg2p' := hW.ge hr hpr
              have k6 := k4 p hpr
              rw [tab_get (c i) hpr] at k6
              have hcp := hc i p
              have hst : stI c g2 to i = g2 p - (1000000000 - c i p) := st_at hp
              rw [hst] at hrd
              rw [hp] at t4
              have g4 : ∀ X : AM, Rd (m ++ (some { cells := iv (tab g2 r) } :: X)) (m.length + 0) p (.int .i64 (g2 p)) := fun X => by rw [← tab_get g2 hpr]; exact Rd.new rfl (iv_get (by simp; omega))
              rcases hrd with ⟨hR, hb1, hb2, hb3⟩ | ⟨hR, hb1⟩
              · (repeat (first | (with_reducible refine AWo.cons ?_) | ((with_reducible refine Step.id ?_); first | ((with_reducible apply Step.move); exact rfl; exact rfl) | ((with_reducible apply Step.assign); exact rfl; exact rfl) | ((with_reducible apply Step.load); exact rfl; (focus (decide +kernel)); exact rfl; (focus (first | exact l4.old _ | exact t4.old _ | exact k1.old _ | exact k6.old _ | exact g4 _))) | ((with_reducible apply Step.ix1z); exact rfl; (focus (exact Sl.mk (by omega))); exact rfl; (focus (decide +kernel)); exact rfl; (focus (omega))) | ((with_reducible apply Step.ix1); exact rfl; (focus (assumption)); exact rfl; (focus (decide +kernel)); exact rfl; (focus (omega))) | ((with_reducible apply Step.sub); exact rfl; exact rfl; (focus (omega)); exact rfl) | ((with_reducible apply Step.lss); exact rfl; exact rfl; exact rfl) | ((with_reducible apply Step.geq); exact rfl; exact rfl; exact rfl) | ((with_reducible apply Step.len); exact rfl; (focus (assumption)); (focus (decide +kernel)); exact rfl)) | (with_reducible refine AWo.nil ?_) | ((with_reducible apply AW.seq)) | ((with_reducible apply Then.n)) | ((with_reducible apply AW.regL)) | ((with_reducible apply AW.block)) | ((with_reducible apply AW.drawL fit); (focus (decide +kernel))) | ((with_reducible apply AW.skip)) | ((with_reducible apply AW.condT); exact rfl; (focus (first | rfl | (simp only [decide_eq_true_eq, decide_eq_false_iff_not, Bool.not_eq_true', Bool.not_eq_false', Bool.not_true, Bool.not_false]; first | assumption | omega)))) | ((with_reducible apply AW.condF); exact rfl; (focus (first | rfl | (simp only [decide_eq_true_eq, decide_eq_false_iff_not, Bool.not_eq_true', Bool.not_eq_false', Bool.not_true, Bool.not_false]; first | assumption | omega))))))
                refine AW.loopT (fun rk t L => ∃ (q : Nat) (g3 : Nat → Int) (fm : Nat → Nat) (rl3 : List Nat) (tau : Nat → Nat) (T : Nat) (ag : Bool), rk = r - q ∧ q ≤ r ∧ Wy c l r gl gr to b A g3 fm rl3 tau T ∧ Swp c l r gl gr to gain rl g3 rl3 i q ag ∧ stI c g3 to i = (g2 p - (1000000000 - c i p)) ∧ Hung.Rd to rl3 i ∧ -1000000000 * (rl3.length : Int) ≤ (g2 p - (1000000000 - c i p)) + 1000000000 ∧ L = [some { cells := iv (tab (g3) r) }, some { cells := iv (tab (fun z => ((fm z : Nat) : Int)) r) }] ∧ t = [(0, cv), (1, glv), (2, grv), (3, ofv), (4, tov), (12, .slice (some ⟨m.length + 0, 0, none⟩) r r), (13, .slice (some ⟨m.length + 1, 0, none⟩) r r), (15, .bool ag), (36, cv), (37, .int .i64 (l : Nat)), (38, .int .i64 (i : Nat)), (16, .int .i64 (i : Nat)), (17, .int .i64 (g2 p - (1000000000 - c i p))), (71, ofv), (72, .int .i64 (r : Nat)), (73, .int .i64 (q : Nat))])
                  ⟨_, _, _, (Or.inl ⟨rfl, (by repeat (first | exact trivial | (refine And.intro rfl ?_)))⟩), 0, g2, fm, rl2, tau, T, ag, rfl, Nat.zero_le _, hW, hS, hst, hR, hb1, rfl, rfl⟩ ?_
                clear hW hS hst hR hb1 fm tau T ag
                rintro rk t L ⟨q, g3, fm, rl3, tau, T, ag, rfl, hq, hW, hS, hst, hR, hb1, rfl, rfl⟩
                rcases Nat.lt_or_ge q r with hqr | hqg
                · have r4 := r3 q hqr
                  have k5 := k4 q hqr
                  rw [tab_get (c i) hqr] at k5
                  have hcq := hc i q
                  have hg3 := hW.le hM hP hqr
                  have hg3' := hW.ge hr hqr
                  have g5 : ∀ X : AM, Rd (m ++ (some { cells := iv (tab g3 r) } :: X)) (m.length + 0) q (.int .i64 (g3 q)) := fun X => by rw [← tab_get g3 hqr]; exact Rd.new rfl (iv_get (by simp; omega))
                  cases hgq : gr q with
                  | true =>
                    rw [hgq] at r4
                    (repeat (first | (with_reducible refine AWo.cons ?_) | ((with_reducible refine Step.id ?_); first | ((with_reducible apply Step.gdF); exact rfl; exact rfl; (focus (rfl))) | ((with_reducible apply Step.move); exact rfl; exact rfl) | ((with_reducible apply Step.assign); exact rfl; exact rfl) | ((with_reducible apply Step.load); exact rfl; (focus (decide +kernel)); exact rfl; (focus (exact r4.old _))) | ((with_reducible apply Step.ix1); exact rfl; (focus (assumption)); exact rfl; (focus (decide +kernel)); exact rfl; (focus (omega))) | ((with_reducible apply Step.add); exact rfl; exact rfl; (focus (omega)); exact rfl) | ((with_reducible apply Step.lss); exact rfl; exact rfl; exact rfl) | ((with_reducible apply Step.pickT); exact rfl; exact rfl; exact rfl; exact rfl; (focus (rfl)))) | (with_reducible refine AWo.nil ?_) | ((with_reducible apply AW.seq)) | ((with_reducible apply Then.n)) | ((with_reducible apply AW.regL)) | ((with_reducible apply AW.block)) | ((with_reducible apply AW.exit)) | ((with_reducible apply InBlk.hit)) | ((with_reducible apply Then.e)) | ((with_reducible apply AW.skip)) | ((with_reducible apply AW.condT); exact rfl; (focus (first | rfl | (simp only [decide_eq_true_eq, decide_eq_false_iff_not, Bool.not_eq_true', Bool.not_eq_false', Bool.not_true, Bool.not_false]; first | assumption | omega))))))
                    exact ⟨_, _, _, by omega, (Or.inl ⟨rfl, (by repeat (first | exact trivial | (refine And.intro rfl ?_)))⟩), q + 1, g3, fm, rl3, tau, T, ag, rfl, by omega, hW, hS.skip fun he => (by rw [he.2.2.2.1] at hgq; cases hgq), hst, hR, hb1, rfl, rfl⟩
                  | false =>
                    rw [hgq] at r4
                    by_cases hcn : c i q < 0
                    · (repeat (first | (with_reducible refine AWo.cons ?_) | ((with_reducible refine Step.id ?_); first | ((with_reducible apply Step.gdT); exact rfl; exact rfl; (focus (rfl))) | ((with_reducible apply Step.gdF); exact rfl; exact rfl; (focus ((simp only [decide_eq_true_eq, decide_eq_false_iff_not, Bool.not_eq_true', Bool.not_eq_false', Bool.not_true, Bool.not_false]; first | assumption | omega)))) | ((with_reducible apply Step.move); exact rfl; exact rfl) | ((with_reducible apply Step.assign); exact rfl; exact rfl) | ((with_reducible apply Step.load); exact rfl; (focus (decide +kernel)); exact rfl; (focus (first | exact r4.old _ | exact k1.old _ | exact k5.old _))) | ((with_reducible apply Step.ix1); exact rfl; (focus (assumption)); exact rfl; (focus (decide +kernel)); exact rfl; (focus (omega))) | ((with_reducible apply Step.add); exact rfl; exact rfl; (focus (omega)); exact rfl) | ((with_reducible apply Step.lss); exact rfl; exact rfl; exact rfl) | ((with_reducible apply Step.pickT); exact rfl; exact rfl; exact rfl; exact rfl; (focus ((simp only [decide_eq_true_eq, decide_eq_false_iff_not, Bool.not_eq_true', Bool.not_eq_false', Bool.not_true, Bool.not_false]; first | assumption | omega)))) | ((with_reducible apply Step.pickF); exact rfl; exact rfl; exact rfl; exact rfl; (focus (rfl)))) | (with_reducible refine AWo.nil ?_) | ((with_reducible apply AW.seq)) | ((with_reducible apply Then.n)) | ((with_reducible apply AW.regL)) | ((with_reducible apply AW.block)) | ((with_reducible apply AW.exit)) | ((with_reducible apply InBlk.hit)) | ((with_reducible apply Then.e)) | ((with_reducible apply AW.skip)) | ((with_reducible apply AW.condT); exact rfl; (focus (first | rfl | (simp only [decide_eq_true_eq, decide_eq_false_iff_not, Bool.not_eq_true', Bool.not_eq_false', Bool.not_true, Bool.not_false]; first | assumption | omega))))))
                      exact ⟨_, _, _, by omega, (Or.inl ⟨rfl, (by repeat (first | exact trivial | (refine And.intro rfl ?_)))⟩), q + 1, g3, fm, rl3, tau, T, ag, rfl, by omega, hW, hS.skip fun he => absurd hcn (by have := he.2.2.2.2; omega), hst, hR, hb1, rfl, rfl⟩
                    · by_cases hte : to i = (q : Int)
                      · have hpq : p = q := by omega
                        have hpq2 : ((p : Nat) : Int) = ((q : Nat) : Int) := by omega
                        (repeat (first | (with_reducible refine AWo.cons ?_) | ((with_reducible refine Step.id ?_); first | ((with_reducible apply Step.gdT); exact rfl; exact rfl; (focus (first | rfl | (simp only [decide_eq_true_eq, decide_eq_false_iff_not, Bool.not_eq_true', Bool.not_eq_false', Bool.not_true, Bool.not_false]; first | assumption | omega)))) | ((with_reducible apply Step.move); exact rfl; exact rfl) | ((with_reducible apply Step.assign); exact rfl; exact rfl) | ((with_reducible apply Step.load); exact rfl; (focus (decide +kernel)); exact rfl; (focus (first | exact r4.old _ | exact k1.old _ | exact k5.old _ | exact t4.old _))) | ((with_reducible apply Step.ix1); exact rfl; (focus (assumption)); exact rfl; (focus (decide +kernel)); exact rfl; (focus (omega))) | ((with_reducible apply Step.add); exact rfl; exact rfl; (focus (omega)); exact rfl) | ((with_reducible apply Step.lss); exact rfl; exact rfl; exact rfl) | ((with_reducible apply Step.eql); exact rfl; exact rfl; exact rfl) | ((with_reducible apply Step.pickF); exact rfl; exact rfl; exact rfl; exact rfl; (focus (first | rfl | (simp only [decide_eq_true_eq, decide_eq_false_iff_not, Bool.not_eq_true', Bool.not_eq_false', Bool.not_true, Bool.not_false]; first | assumption | omega))))) | (with_reducible refine AWo.nil ?_) | ((with_reducible apply AW.seq)) | ((with_reducible apply Then.n)) | ((with_reducible apply AW.regL)) | ((with_reducible apply AW.block)) | ((with_reducible apply AW.exit)) | ((with_reducible apply InBlk.hit)) | ((with_reducible apply Then.e)) | ((with_reducible apply AW.skip)) | ((with_reducible apply AW.condT); exact rfl; (focus ((simp only [decide_eq_true_eq, decide_eq_false_iff_not, Bool.not_eq_true', Bool.not_eq_false', Bool.not_true, Bool.not_false]; first | assumption | omega))))))
                        exact ⟨_, _, _, by omega, (Or.inl ⟨rfl, (by repeat (first | exact trivial | (refine And.intro rfl ?_)))⟩), q + 1, g3, fm, rl3, tau, T, ag, rfl, by omega, hW, hS.skip fun he hne => absurd hte hne, hst, hR, hb1, rfl, rfl⟩
                      · have hpq2 : ¬ ((p : Nat) : Int) = ((q : Nat) : Int) := by omega
                        have hed : Ed c l r gl gr i q := ⟨hil, hqr, hgi, hgq, by omega⟩
                        have hwt : stI c g3 to i + Wt c i q = (g2 p - (1000000000 - c i p)) + 1000000000 - c i q := by rw [hst]; unfold Wt; omega
                        by_cases hgt : g3 q < (g2 p - (1000000000 - c i p)) + 1000000000 - c i q
                        · (repeat (first | (with_reducible refine AWo.cons ?_) | ((with_reducible refine Step.id ?_); first | ((with_reducible apply Step.gdT); exact rfl; exact rfl; (focus (first | rfl | (simp only [decide_eq_true_eq, decide_eq_false_iff_not, Bool.not_eq_true', Bool.not_eq_false', Bool.not_true, Bool.not_false]; first | assumption | omega)))) | ((with_reducible apply Step.move); exact rfl; exact rfl) | ((with_reducible apply Step.assign); exact rfl; exact rfl) | ((with_reducible apply Step.load); exact rfl; (focus (decide +kernel)); exact rfl; (focus (first | exact r4.old _ | exact k1.old _ | exact k5.old _ | exact t4.old _ | exact g5 _))) | ((with_reducible apply Step.ix1z); exact rfl; (focus (exact Sl.mk (by omega))); exact rfl; (focus (decide +kernel)); exact rfl; (focus (omega))) | ((with_reducible apply Step.ix1); exact rfl; (focus (assumption)); exact rfl; (focus (decide +kernel)); exact rfl; (focus (omega))) | ((with_reducible apply Step.add); exact rfl; exact rfl; (focus (omega)); exact rfl) | ((with_reducible apply Step.sub); exact rfl; exact rfl; (focus (omega)); exact rfl) | ((with_reducible apply Step.lss); exact rfl; exact rfl; exact rfl) | ((with_reducible apply Step.gtr); exact rfl; exact rfl; exact rfl) | ((with_reducible apply Step.eql); exact rfl; exact rfl; exact rfl) | ((with_reducible apply Step.pickF); exact rfl; exact rfl; exact rfl; exact rfl; (focus (first | rfl | (simp only [decide_eq_true_eq, decide_eq_false_iff_not, Bool.not_eq_true', Bool.not_eq_false', Bool.not_true, Bool.not_false]; first | assumption | omega)))) | ((with_reducible apply Step.store (k := 0)); exact rfl; exact rfl; exact rfl; exact rfl; (focus (decide +kernel)); exact rfl; exact rfl; (focus (first | omega | (simp [iv, bv]; done) | (simp [iv, bv]; omega))); (focus (first | (simp only [List.nil_append, List.cons_append, List.set_cons_zero, List.set_cons_succ, iv_set, bv_set, iv_rep, bv_rep]; done) | (simp only [List.nil_append, List.cons_append, List.set_cons_zero, List.set_cons_succ, iv_set, bv_set, iv_rep, bv_rep]; rfl) | rfl))) | ((with_reducible apply Step.store (k := 1)); exact rfl; exact rfl; exact rfl; exact rfl; (focus (decide +kernel)); exact rfl; exact rfl; (focus (first | omega | (simp [iv, bv]; done) | (simp [iv, bv]; omega))); (focus (first | (simp only [List.nil_append, List.cons_append, List.set_cons_zero, List.set_cons_succ, iv_set, bv_set, iv_rep, bv_rep]; done) | (simp only [List.nil_append, List.cons_append, List.set_cons_zero, List.set_cons_succ, iv_set, bv_set, iv_rep, bv_rep]; rfl) | rfl)))) | (with_reducible refine AWo.nil ?_) | ((with_reducible apply AW.seq)) | ((with_reducible apply Then.n)) | ((with_reducible apply AW.regL)) | ((with_reducible apply AW.block)) | ((with_reducible apply InBlk.n)) | ((with_reducible apply AW.skip)) | ((with_reducible apply AW.condT); exact rfl; (focus ((simp only [decide_eq_true_eq, decide_eq_false_iff_not, Bool.not_eq_true', Bool.not_eq_false', Bool.not_true, Bool.not_false]; first | assumption | omega)))) | ((with_reducible apply AW.condF); exact rfl; (focus ((simp only [decide_eq_true_eq, decide_eq_false_iff_not, Bool.not_eq_true', Bool.not_eq_false', Bool.not_true, Bool.not_false]; first | assumption | omega))))))
                          have hW' := hW.step hP hM.inj hed hte hR (by rw [hwt]; exact hgt) (by rw [hst]; exact hb1) (by unfold Wt; omega)
                          rw [hwt] at hW'
                          refine ⟨_, _, [some { cells := iv (tab (up g3 q (g2 p - (1000000000 - c i p) + 1000000000 - c i q)) r) }, some { cells := iv (tab (fun z => (((up fm q i) z : Nat) : Int)) r) }], by omega, by rw [tab_set, tab_set, up_cast]; exact (Or.inl ⟨rfl, (by repeat (first | exact trivial | (refine And.intro rfl ?_)))⟩), q + 1, _, up fm q i, _, _, _, true, rfl, by omega, hW', hS.take hqr (fun x hx => by have := hW.le hM hP hx; omega) (by omega) hgt, by rw [stI_up hte]; exact hst, hR.ins, ?_, rfl, rfl⟩
                          split
                          · exact hb1
                          · simp only [List.length_cons]; omega
                        · (repeat (first | (with_reducible refine AWo.cons ?_) | ((with_reducible refine Step.id ?_); first | ((with_reducible apply Step.gdT); exact rfl; exact rfl; (focus (first | rfl | (simp only [decide_eq_true_eq, decide_eq_false_iff_not, Bool.not_eq_true', Bool.not_eq_false', Bool.not_true, Bool.not_false]; first | assumption | omega)))) | ((with_reducible apply Step.move); exact rfl; exact rfl) | ((with_reducible apply Step.assign); exact rfl; exact rfl) | ((with_reducible apply Step.load); exact rfl; (focus (decide +kernel)); exact rfl; (focus (first | exact r4.old _ | exact k1.old _ | exact k5.old _ | exact t4.old _ | exact g5 _))) | ((with_reducible apply Step.ix1z); exact rfl; (focus (exact Sl.mk (by omega))); exact rfl; (focus (decide +kernel)); exact rfl; (focus (omega))) | ((with_reducible apply Step.ix1); exact rfl; (focus (assumption)); exact rfl; (focus (decide +kernel)); exact rfl; (focus (omega))) | ((with_reducible apply Step.add); exact rfl; exact rfl; (focus (omega)); exact rfl) | ((with_reducible apply Step.sub); exact rfl; exact rfl; (focus (omega)); exact rfl) | ((with_reducible apply Step.lss); exact rfl; exact rfl; exact rfl) | ((with_reducible apply Step.gtr); exact rfl; exact rfl; exact rfl) | ((with_reducible apply Step.eql); exact rfl; exact rfl; exact rfl) | ((with_reducible apply Step.pickF); exact rfl; exact rfl; exact rfl; exact rfl; (focus (first | rfl | (simp only [decide_eq_true_eq, decide_eq_false_iff_not, Bool.not_eq_true', Bool.not_eq_false', Bool.not_true, Bool.not_false]; first | assumption | omega))))) | (with_reducible refine AWo.nil ?_) | ((with_reducible apply AW.seq)) | ((with_reducible apply Then.n)) | ((with_reducible apply AW.regL)) | ((with_reducible apply AW.block)) | ((with_reducible apply InBlk.n)) | ((with_reducible apply AW.skip)) | ((with_reducible apply AW.condT); exact rfl; (focus ((simp only [decide_eq_true_eq, decide_eq_false_iff_not, Bool.not_eq_true', Bool.not_eq_false', Bool.not_true, Bool.not_false]; first | assumption | omega)))) | ((with_reducible apply AW.condF); exact rfl; (focus ((simp only [decide_eq_true_eq, decide_eq_false_iff_not, Bool.not_eq_true', Bool.not_eq_false', Bool.not_true, Bool.not_false]; first | assumption | omega))))))
                          exact ⟨_, _, _, by omega, (Or.inl ⟨rfl, (by repeat (first | exact trivial | (refine And.intro rfl ?_)))⟩), q + 1, g3, fm, rl3, tau, T, ag, rfl, by omega, hW, hS.skip fun _ _ => by rw [hwt]; omega, hst, hR, hb1, rfl, rfl⟩
                · have hqr : q = r := by omega
                  subst q
                  (repeat (first | (with_reducible refine AWo.cons ?_) | ((with_reducible refine Step.id ?_); first | ((with_reducible apply Step.move); exact rfl; exact rfl) | ((with_reducible apply Step.add); exact rfl; exact rfl; (focus (omega)); exact rfl) | ((with_reducible apply Step.lss); exact rfl; exact rfl; exact rfl)) | (with_reducible refine AWo.nil ?_) | ((with_reducible apply AW.seq)) | ((with_reducible apply Then.n)) | ((with_reducible apply AW.regL)) | ((with_reducible apply AW.exit)) | ((with_reducible apply InBlk.n)) | ((with_reducible apply InBlk.hit)) | ((with_reducible apply Then.e)) | ((with_reducible apply AW.condF); exact rfl; (focus ((simp only [decide_eq_true_eq, decide_eq_false_iff_not, Bool.not_eq_true', Bool.not_eq_false', Bool.not_true, Bool.not_false]; first | assumption | omega))))))
                  exact ⟨_, _, _, by omega, (Or.inl ⟨rfl, (by repeat (first | exact trivial | (refine And.intro rfl ?_)))⟩), i + 1, g3, fm, rl3, tau, T, ag, rfl, by omega, hW, hS.row, rfl, rfl⟩
              · (repeat (first | (with_reducible refine AWo.cons ?_) | ((with_reducible refine Step.id ?_); first | ((with_reducible apply Step.move); exact rfl; exact rfl) | ((with_reducible apply Step.assign); exact rfl; exact rfl) | ((with_reducible apply Step.load); exact rfl; (focus (decide +kernel)); exact rfl; (focus (first | exact l4.old _ | exact t4.old _ | exact k1.old _ | exact k6.old _ | exact g4 _))) | ((with_reducible apply Step.ix1z); exact rfl; (focus (exact Sl.mk (by omega))); exact rfl; (focus (decide +kernel)); exact rfl; (focus (omega))) | ((with_reducible apply Step.ix1); exact rfl; (focus (assumption)); exact rfl; (focus (decide +kernel)); exact rfl; (focus (omega))) | ((with_reducible apply Step.add); exact rfl; exact rfl; (focus (omega)); exact rfl) | ((with_reducible apply Step.sub); exact rfl; exact rfl; (focus (omega)); exact rfl) | ((with_reducible apply Step.lss); exact rfl; exact rfl; exact rfl) | ((with_reducible apply Step.geq); exact rfl; exact rfl; exact rfl)) | (with_reducible refine AWo.nil ?_) | ((with_reducible apply AW.seq)) | ((with_reducible apply Then.n)) | ((with_reducible apply AW.regL)) | ((with_reducible apply AW.block)) | ((with_reducible apply AW.drawL fit); (focus (decide +kernel))) | ((with_reducible apply AW.exit)) | ((with_reducible apply InBlk.hit)) | ((with_reducible apply Then.e)) | ((with_reducible apply AW.skip)) | ((with_reducible apply AW.condT); exact rfl; (focus (first | rfl | (simp only [decide_eq_true_eq, decide_eq_false_iff_not, Bool.not_eq_true', Bool.not_eq_false', Bool.not_true, Bool.not_false]; first | assumption | omega)))) | ((with_reducible apply AW.condF); exact rfl; (focus (rfl)))))
                exact ⟨_, _, _, by omega, (Or.inl ⟨rfl, (by repeat (first | exact trivial | (refine And.intro rfl ?_)))⟩), i + 1, g2, fm, rl2, tau, T, ag, rfl, by omega, hW, hS.gone (.inr hR), rfl, rfl⟩
        · have hil : i = l := by omega
          subst i
          (repeat (first | (with_reducible refine AWo.cons ?_) | ((with_reducible refine Step.id ?_); ((with_reducible apply Step.lss); exact rfl; exact rfl; exact rfl)) | (with_reducible refine AWo.nil ?_) | ((with_reducible apply AW.seq)) | ((with_reducible apply Then.n)) | ((with_reducible apply AW.regL)) | ((with_reducible apply AW.exit)) | ((with_reducible apply InBlk.n)) | ((with_reducible apply InBlk.hit)) | ((with_reducible apply Then.e)) | ((with_reducible apply AW.condF); exact rfl; (focus ((simp only [decide_eq_true_eq, decide_eq_false_iff_not, Bool.not_eq_true', Bool.not_eq_false', Bool.not_true, Bool.not_false]; first | assumption | omega))))))
          refine ⟨_, _, _, ?_, (Or.inl ⟨rfl, (by repeat (first | exact trivial | (refine And.intro rfl ?_)))⟩), g2, fm, rl2, tau, T, ag, rfl, hW, fun h => ?_, rfl, rfl⟩
          · rcases hS with ⟨rfl, _⟩ | ⟨rfl, h⟩
            · simp
            · simp; omega
          · subst h; exact hS.fx
end Go.Proofs.Ytajpngnphbdnnaa.Abs
namespace Go.Proofs.Ytajpngnphbdnnaa.Hung
set_option linter.unusedSimpArgs false
set_option linter.unusedVariables false
section
variable {c : Nat → Nat → Int} {l r : Nat} {gl gr : Nat → Bool} {of to a b gain : Nat → Int} {fm tau rk : Nat → Nat} {rl : List Nat} {T : Nat} {A D V : Int} {of' to' : Nat → Int}
/-- The best end of a way among the first k. -/
def Bst (gr : Nat → Bool) (of gain : Nat → Int) (k : Nat) (best : Int) : Prop :=
  (best = -1 ∧ ∀ j, j < k → gr j = false → of j = -1 → gain j ≤ 0) ∨ (∃ q : Nat, best = q ∧ q < k ∧ gr q = false ∧ of q = -1 ∧ 0 < gain q ∧ ∀ j, j < k → gr j = false → of j = -1 → gain j ≤ gain q)
theorem Bst.start (gr : Nat → Bool) (of gain : Nat → Int) : Bst gr of gain 0 (-1) := .inl ⟨rfl, fun _ h => by omega⟩
theorem Bst.skip {k : Nat} {best : Int} (h : Bst gr of gain k best) (hg : gr k = false → of k = -1 → 0 < gain k → 0 ≤ best ∧ gain k ≤ gain best.toNat) : Bst gr of gain (k + 1) best := by
  rcases h with ⟨h1, h2⟩ | ⟨q, h1, h2, h3, h4, h5, h6⟩
  · refine .inl ⟨h1, fun j hj g f => ?_⟩
    rcases Nat.lt_or_ge j k with e | e
    · exact h2 j e g f
    · have : j = k := by omega
      subst this
      rcases Int.lt_or_le 0 (gain j) with h | h
      · have := hg g f h; omega
      · exact h
  · refine .inr ⟨q, h1, by omega, h3, h4, h5, fun j hj g f => ?_⟩
    rcases Nat.lt_or_ge j k with e | e
    · exact h6 j e g f
    · have : j = k := by omega
      subst this
      rcases Int.lt_or_le 0 (gain j) with h | h
      · have := (hg g f h).2
        rw [h1, Int.toNat_natCast] at this; exact this
      · omega
theorem Bst.take {k : Nat} {best : Int} (h : Bst gr of gain k best) (hg : gr k = false) (hf : of k = -1) (hp : 0 < gain k) (hb : best < 0 ∨ gain best.toNat < gain k) : Bst gr of gain (k + 1) (k : Int) := by
  refine .inr ⟨k, rfl, by omega, hg, hf, hp, fun j hj g f => ?_⟩
  rcases Nat.lt_or_ge j k with e | e
  · rcases h with ⟨h1, h2⟩ | ⟨q, h1, h2, h3, h4, h5, h6⟩
    · have := h2 j e g f; omega
    · have := h6 j e g f
      rcases hb with hb | hb
      · omega
      · rw [h1, Int.toNat_natCast] at hb; omega
  · have : j = k := by omega
    subst this; exact Int.le_refl _
/-- Handing on along the way. -/
def Wk (c : Nat → Nat → Int) (l r : Nat) (gl gr : Nat → Bool) (of to a b gain : Nat → Int) (rl : List Nat) (rk : Nat → Nat) (A D V : Int) (of' to' : Nat → Int) (j : Int) : Prop :=
  (∃ q : Nat, j = q ∧ Pg c l r gl gr of to a b gain rl rk A D V of' to' q) ∨ (j = -1 ∧ Mt c l r gl gr of' to' ∧ Pc c l r gl gr of' to' (na A D a b gain to) (nb A D b gain) (A - D) ∧ valT c to' l = V)
theorem Wk.start (hM : Mt c l r gl gr of to) (hP : Pc c l r gl gr of to a b A) (hW : Wy c l r gl gr to b A gain fm rl tau T) (hF : Fx c l r gl gr to gain rl) (rk : Nat → Nat) {q : Nat} (hq : q < r) (hg : gr q = false) (hf : of q = -1) (hp : 0 < gain q) (hmx : ∀ j, j < r → gr j = false → of j = -1 → gain j ≤ gain q) :
    Pc c l r gl gr of to (na A (A - gain q) a b gain to) (nb A (A - gain q) b gain) (A - (A - gain q)) ∧ Wk c l r gl gr of to a b gain rl rk A (A - gain q) (valT c to l + gain q) of to (q : Int) := by
  have hq2 : q ∈ rl := by
    by_cases h : q ∈ rl
    · exact h
    · have := hW.un q hq h; omega
  have hb := (hP.b0 q hq hg).2 hf
  have hhi := hW.hi q hq2
  have hP' := hP.move (D := A - gain q) hM hW hF (by omega) (by omega) fun j hj g f => by
    have h1 := hmx j hj g f
    have h2 := (hP.b0 j hj g).2 f
    unfold xs; omega
  exact ⟨hP', .inl ⟨q, rfl, Pg.start hM hP hP' rk hq2 hq (by unfold xs; omega) hf⟩⟩
theorem Wk.step (hP : Pc c l r gl gr of to a b A) (hW : Wy c l r gl gr to b A gain fm rl tau T) (hF : Fx c l r gl gr to gain rl) (hrk : ∀ j ∈ rl, to (fm j) = -1 ∨ ∃ p : Nat, to (fm j) = p ∧ p ∈ rl ∧ rk p < rk j)
    (hP' : Pc c l r gl gr of to (na A D a b gain to) (nb A D b gain) (A - D)) {q : Nat} (h : Pg c l r gl gr of to a b gain rl rk A D V of' to' q) :
    q < r ∧ fm q < l ∧ to' (fm q) = to (fm q) ∧ Wk c l r gl gr of to a b gain rl rk A D V (up of' q (fm q : Int)) (up to' (fm q) (q : Int)) (to (fm q)) ∧ (to (fm q) = -1 ∨ ∃ p : Nat, to (fm q) = p ∧ rk p < rk q) := by
  obtain ⟨h1, h2, h3, h4⟩ := Pg.step hP hW hF hrk h
  refine ⟨hW.rr q h.jr, h2, h1, ?_⟩
  rcases hrk q h.jr with e | ⟨p, e, _⟩
  · obtain ⟨k1, k2, k3, k4, k5⟩ := h3 e
    refine ⟨.inr ⟨e, k1, ⟨hP'.A0, fun i hi g => ⟨(hP'.aA i hi g).1, fun f => (hP'.aA i hi g).2 (k2 i hi f)⟩, fun j hj g => ⟨(hP'.b0 j hj g).1, fun f => (hP'.b0 j hj g).2 (k3 j hj f)⟩, hP'.fe, k4, hP'.bA⟩, k5⟩, .inl e⟩
  · obtain ⟨k1, k2, k3⟩ := h4 p e
    exact ⟨.inl ⟨p, e, k3⟩, .inr ⟨p, e, k2⟩⟩
theorem valT_le (hM : Mt c l r gl gr of to) (hc : ∀ i j, c i j ≤ 1000000000) : 0 ≤ valT c to l ∧ valT c to l ≤ 1000000000 * (l : Int) := by
  refine sN_bd fun i hi => ?_
  rcases hM.t1 i hi with h | ⟨j, h, he, _⟩
  · rw [if_neg (by omega)]; omega
  · rw [if_pos (by omega), h, Int.toNat_natCast]
    have := he.2.2.2.2
    have := hc i j
    unfold Wt; omega
end
end Go.Proofs.Ytajpngnphbdnnaa.Hung
namespace Go.Proofs.Ytajpngnphbdnnaa.Abs
set_option linter.unusedSimpArgs false
set_option linter.unusedVariables false
open Go.RowKit
open Go.Proofs.Ytajpngnphbdnnaa.Sim
open Go.Proofs
open Hung in
-- function 60
set_option maxHeartbeats 8000000 in
set_option maxRecDepth 100000 in
theorem rworth_ok {m : AM} {cv glv grv : Value} {c : Nat → Nat → Int} {l r : Nat} {gl gr : Nat → Bool} (hT : RT m cv c l r) (hc : Cs c) (hl : l ≤ 32) (hr : r ≤ 32) (hgl : BRow m glv gl l) (hgr : BRow m grv gr r) :
    ACall Try.prog 60 #[cv, glv, grv] m (Ret (.int .i64 (mx (wo c) (hre gl l) (hre gr r))) m) := by
  obtain ⟨cb, co, c1, c2, c3⟩ := id hT
  obtain ⟨la, lo, l1, l2, l3⟩ := id hgl
  obtain ⟨ra, ro, r1, r2, r3⟩ := id hgr
  have hc9 : ∀ i j, c i j ≤ 1000000000 := fun i j => by have := hc i j; omega
  refine ACall.start Try.func60 rfl rfl ?_
  (repeat (first | (with_reducible refine AWo.cons ?_) | ((with_reducible refine Step.id ?_); ((with_reducible apply Step.assign); exact rfl; exact rfl)) | (with_reducible refine AWo.nil ?_) | ((fail_if_success (with_reducible refine AW.atR (id := 1) ?_)); ((with_reducible apply AW.seq))) | ((with_reducible apply Then.n)) | ((with_reducible apply AW.regL))))
  refine AW.joinG (fr [(0, cv), (1, glv), (2, grv), (7, .slice (some ⟨m.length + 0, 0, none⟩) r r), (8, .slice (some ⟨m.length + 1, 0, none⟩) l l)]) (m ++ [some { cells := iv (List.replicate r 0) }, some { cells := iv (List.replicate l 0) }]) ?_ ?_
  · (repeat' (first | ((with_reducible refine Step.id ?_); first | ((with_reducible apply Step.move); exact rfl; exact rfl) | ((with_reducible apply Step.assign); exact rfl; exact rfl) | ((with_reducible apply Step.len); exact rfl; (focus (assumption)); (focus (decide +kernel)); exact rfl) | ((with_reducible apply Step.make1 0); exact rfl; exact rfl; exact rfl; exact el27; (focus (omega)); exact rfl; (focus (first | (simp only [List.nil_append, List.cons_append, List.set_cons_zero, List.set_cons_succ, iv_set, bv_set, iv_rep, bv_rep]; done) | (simp only [List.nil_append, List.cons_append, List.set_cons_zero, List.set_cons_succ, iv_set, bv_set, iv_rep, bv_rep]; rfl) | rfl))) | ((with_reducible apply Step.make1 1); exact rfl; exact rfl; exact rfl; exact el27; (focus (omega)); exact rfl; (focus (first | (simp only [List.nil_append, List.cons_append, List.set_cons_zero, List.set_cons_succ, iv_set, bv_set, iv_rep, bv_rep]; done) | (simp only [List.nil_append, List.cons_append, List.set_cons_zero, List.set_cons_succ, iv_set, bv_set, iv_rep, bv_rep]; rfl) | rfl)))) | ((with_reducible apply Then.n)) | ((with_reducible apply AW.drawT fit (T := (.step 0 (.step 1 (.step 3 (.step 4 (.both (.step 2 (.step 6 (.step 5 (.step 7 .done)))) (.step 5 (.step 2 (.step 6 (.step 7 .done))))))))))); (focus (decide +kernel))) | ((with_reducible apply AWt.step); exact rfl) | ((with_reducible apply AWt.done)) | refine AWt.both ?_ ?_))
    all_goals first | (refine Gc.perm [0,1] rfl (by decide) ?_ (CellsOk.ren ?_) ?_; (focus (intro p hp; rcases p with _ | _ | p <;> first | rfl | exact absurd hp (lenB (n := 2) rfl))); (focus (repeat (first | exact CellsOk.nil | refine CellsOk.cons (by exact g0_iv _) ?_))); (focus ((repeat (first | exact trivial | (refine And.intro ⟨_, rfl, ?_⟩ ?_; (focus (first | (refine Ren.slice_sg ?_; (focus (first | (simp; done) | omega | (simp; omega)))) | (refine Ren.of_sl_sg (by assumption) ?_ ?_; (focus (first | (simp; done) | omega | (simp; omega))); (focus (simp; done)))))))); done))) | (refine Gc.perm [1,0] rfl (by decide) ?_ (CellsOk.ren ?_) ?_; (focus (intro p hp; rcases p with _ | _ | p <;> first | rfl | exact absurd hp (lenB (n := 2) rfl))); (focus (repeat (first | exact CellsOk.nil | refine CellsOk.cons (by exact g0_iv _) ?_))); (focus ((repeat (first | exact trivial | (refine And.intro ⟨_, rfl, ?_⟩ ?_; (focus (first | (refine Ren.slice_sg ?_; (focus (first | (simp; done) | omega | (simp; omega)))) | (refine Ren.of_sl_sg (by assumption) ?_ ?_; (focus (first | (simp; done) | omega | (simp; omega))); (focus (simp; done)))))))); done)))
  (repeat (first | (with_reducible refine AWo.cons ?_) | ((with_reducible refine Step.id ?_); first | ((with_reducible apply Step.move); exact rfl; exact rfl) | ((with_reducible apply Step.len); exact rfl; (focus (exact Sl.mk (by omega))); (focus (decide +kernel)); exact rfl)) | (with_reducible refine AWo.nil ?_) | ((with_reducible apply AW.seq)) | ((with_reducible apply Then.n)) | ((with_reducible apply AW.regL)) | ((with_reducible apply AW.block))))
  refine AW.loopT (fun rk t L => ∃ k : Nat, rk = r - k ∧ k ≤ r ∧ L = [some { cells := iv (tab (fun x => if x < k then -1 else 0) r) }, some { cells := iv (tab (fun _ => 0) l) }] ∧ t = [(0, cv), (1, glv), (2, grv), (7, .slice (some ⟨m.length + 0, 0, none⟩) r r), (8, .slice (some ⟨m.length + 1, 0, none⟩) l l), (26, .int .i64 (r : Nat)), (27, .int .i64 (k : Nat))])
    ⟨_, _, [some { cells := iv (List.replicate r 0) }, some { cells := iv (List.replicate l 0) }], (Or.inl ⟨rfl, (by repeat (first | exact trivial | (refine And.intro rfl ?_)))⟩), 0, rfl, Nat.zero_le _, by simp only [tab_rep]; simp, rfl⟩ ?_
  rintro rk t L ⟨k, rfl, hk, rfl, rfl⟩
  rcases Nat.lt_or_ge k r with hkl | hkg
  · (repeat (first | (with_reducible refine AWo.cons ?_) | ((with_reducible refine Step.id ?_); first | ((with_reducible apply Step.move); exact rfl; exact rfl) | ((with_reducible apply Step.assign); exact rfl; exact rfl) | ((with_reducible apply Step.ix1z); exact rfl; (focus (exact Sl.mk (by omega))); exact rfl; (focus (decide +kernel)); exact rfl; (focus (omega))) | ((with_reducible apply Step.add); exact rfl; exact rfl; (focus (omega)); exact rfl) | ((with_reducible apply Step.lss); exact rfl; exact rfl; exact rfl) | ((with_reducible apply Step.store (k := 0)); exact rfl; exact rfl; exact rfl; exact rfl; (focus (decide +kernel)); exact rfl; exact rfl; (focus (first | omega | (simp [iv, bv]; done) | (simp [iv, bv]; omega))); (focus (first | (simp only [List.nil_append, List.cons_append, List.set_cons_zero, List.set_cons_succ, iv_set, bv_set, iv_rep, bv_rep]; done) | (simp only [List.nil_append, List.cons_append, List.set_cons_zero, List.set_cons_succ, iv_set, bv_set, iv_rep, bv_rep]; rfl) | rfl)))) | (with_reducible refine AWo.nil ?_) | ((with_reducible apply AW.seq)) | ((with_reducible apply Then.n)) | ((with_reducible apply AW.regL)) | ((with_reducible apply AW.block)) | ((with_reducible apply InBlk.n)) | ((with_reducible apply AW.skip)) | ((with_reducible apply AW.condT); exact rfl; (focus ((simp only [decide_eq_true_eq, decide_eq_false_iff_not, Bool.not_eq_true', Bool.not_eq_false', Bool.not_true, Bool.not_false]; first | assumption | omega))))))
    exact ⟨_, _, [some { cells := iv (tab (fun x => if x < k + 1 then -1 else 0) r) }, some { cells := iv (tab (fun _ => 0) l) }], by omega, by rw [tab_set, fill_step]; exact (Or.inl ⟨rfl, (by repeat (first | exact trivial | (refine And.intro rfl ?_)))⟩), k + 1, rfl, by omega, rfl, rfl⟩
  have hkr : k = r := by omega
  subst k
  rw [fill_all]
  (repeat (first | (with_reducible refine AWo.cons ?_) | ((with_reducible refine Step.id ?_); first | ((with_reducible apply Step.move); exact rfl; exact rfl) | ((with_reducible apply Step.lss); exact rfl; exact rfl; exact rfl) | ((with_reducible apply Step.len); exact rfl; (focus (exact Sl.mk (by omega))); (focus (decide +kernel)); exact rfl)) | (with_reducible refine AWo.nil ?_) | ((with_reducible apply AW.seq)) | ((with_reducible apply Then.n)) | ((with_reducible apply AW.regL)) | ((with_reducible apply AW.block)) | ((with_reducible apply AW.exit)) | ((with_reducible apply InBlk.hit)) | ((with_reducible apply Then.e)) | ((with_reducible apply AW.condF); exact rfl; (focus ((simp only [decide_eq_true_eq, decide_eq_false_iff_not, Bool.not_eq_true', Bool.not_eq_false', Bool.not_true, Bool.not_false]; first | assumption | omega))))))
  refine AW.loopT (fun rk t L => ∃ k : Nat, rk = l - k ∧ k ≤ l ∧ L = [some { cells := iv (tab (fun _ => -1) r) }, some { cells := iv (tab (fun x => if x < k then -1 else 0) l) }] ∧ t = [(0, cv), (1, glv), (2, grv), (7, .slice (some ⟨m.length + 0, 0, none⟩) r r), (8, .slice (some ⟨m.length + 1, 0, none⟩) l l), (35, .int .i64 (l : Nat)), (36, .int .i64 (k : Nat))])
    ⟨_, _, [some { cells := iv (tab (fun _ => -1) r) }, some { cells := iv (tab (fun _ => 0) l) }], (Or.inl ⟨rfl, (by repeat (first | exact trivial | (refine And.intro rfl ?_)))⟩), 0, rfl, Nat.zero_le _, by simp, rfl⟩ ?_
  rintro rk t L ⟨k, rfl, hk, rfl, rfl⟩
  rcases Nat.lt_or_ge k l with hkl | hkg
  · (repeat (first | (with_reducible refine AWo.cons ?_) | ((with_reducible refine Step.id ?_); first | ((with_reducible apply Step.move); exact rfl; exact rfl) | ((with_reducible apply Step.assign); exact rfl; exact rfl) | ((with_reducible apply Step.ix1z); exact rfl; (focus (exact Sl.mk (by omega))); exact rfl; (focus (decide +kernel)); exact rfl; (focus (omega))) | ((with_reducible apply Step.add); exact rfl; exact rfl; (focus (omega)); exact rfl) | ((with_reducible apply Step.lss); exact rfl; exact rfl; exact rfl) | ((with_reducible apply Step.store (k := 1)); exact rfl; exact rfl; exact rfl; exact rfl; (focus (decide +kernel)); exact rfl; exact rfl; (focus (first | omega | (simp [iv, bv]; done) | (simp [iv, bv]; omega))); (focus (first | (simp only [List.nil_append, List.cons_append, List.set_cons_zero, List.set_cons_succ, iv_set, bv_set, iv_rep, bv_rep]; done) | (simp only [List.nil_append, List.cons_append, List.set_cons_zero, List.set_cons_succ, iv_set, bv_set, iv_rep, bv_rep]; rfl) | rfl)))) | (with_reducible refine AWo.nil ?_) | ((with_reducible apply AW.seq)) | ((with_reducible apply Then.n)) | ((with_reducible apply AW.regL)) | ((with_reducible apply AW.block)) | ((with_reducible apply InBlk.n)) | ((with_reducible apply AW.skip)) | ((with_reducible apply AW.condT); exact rfl; (focus ((simp only [decide_eq_true_eq, decide_eq_false_iff_not, Bool.not_eq_true', Bool.not_eq_false', Bool.not_true, Bool.not_false]; first | assumption | omega))))))
    exact ⟨_, _, [some { cells := iv (tab (fun _ => -1) r) }, some { cells := iv (tab (fun x => if x < k + 1 then -1 else 0) l) }], by omega, by rw [tab_set, fill_step]; exact (Or.inl ⟨rfl, (by repeat (first | exact trivial | (refine And.intro rfl ?_)))⟩), k + 1, rfl, by omega, rfl, rfl⟩
  have hkr : k = l := by omega
  subst k
  rw [fill_all]
  (repeat (first | (with_reducible refine AWo.cons ?_) | ((with_reducible refine Step.id ?_); first | ((with_reducible apply Step.assign); exact rfl; exact rfl) | ((with_reducible apply Step.lss); exact rfl; exact rfl; exact rfl)) | (with_reducible refine AWo.nil ?_) | ((with_reducible apply AW.seq)) | ((with_reducible apply Then.n)) | ((with_reducible apply AW.regL)) | ((with_reducible apply AW.block)) | ((with_reducible apply AW.exit)) | ((with_reducible apply InBlk.hit)) | ((with_reducible apply Then.e)) | ((with_reducible apply AW.condF); exact rfl; (focus ((simp only [decide_eq_true_eq, decide_eq_false_iff_not, Bool.not_eq_true', Bool.not_eq_false', Bool.not_true, Bool.not_false]; first | assumption | omega))))))
  refine AW.loopT (fun rk t L => ∃ (of to a b : Nat → Int) (A : Int), rk = (1000000000 * (l : Int) - valT c to l).toNat ∧ Mt c l r gl gr of to ∧ Pc c l r gl gr of to a b A ∧ L = [some { cells := iv (tab (of) r) }, some { cells := iv (tab (to) l) }] ∧ t = [(0, cv), (1, glv), (2, grv), (7, .slice (some ⟨m.length + 0, 0, none⟩) r r), (8, .slice (some ⟨m.length + 1, 0, none⟩) l l), (11, .int .i64 (valT c to l))])
    ⟨_, [(0, cv), (1, glv), (2, grv), (7, .slice (some ⟨m.length + 0, 0, none⟩) r r), (8, .slice (some ⟨m.length + 1, 0, none⟩) l l), (11, .int .i64 0)], _, (Or.inl ⟨rfl, (by repeat (first | exact trivial | (refine And.intro rfl ?_)))⟩), fun _ => -1, fun _ => -1, fun _ => 1000000000, fun _ => 0, 1000000000, rfl, Mt.start c l r gl gr, Pc.start c l r gl gr, rfl, ?_⟩ ?_
  · have : valT c (fun _ => -1) l = 0 := sN_zero fun i hi => rfl
    rw [this]
  rintro rk t L ⟨of, to, a, b, A, rfl, hM, hP, rfl, rfl⟩
  have hv := valT_le hM hc9
  obtain ⟨V, hV⟩ : ∃ V, valT c to l = V := ⟨_, rfl⟩
  have hio : Ints (m ++ [some { cells := iv (tab (of) r) }, some { cells := iv (tab (to) l) }]) (.slice (some ⟨m.length + 0, 0, none⟩) r r) (tab of r) := ints_new rfl rfl _ (by simp)
  have hit : Ints (m ++ [some { cells := iv (tab (of) r) }, some { cells := iv (tab (to) l) }]) (.slice (some ⟨m.length + 1, 0, none⟩) l l) (tab to l) := ints_new rfl rfl _ (by simp)
  (repeat (first | (with_reducible refine AWo.cons ?_) | ((with_reducible refine Step.id ?_); ((with_reducible apply Step.move); exact rfl; exact rfl)) | ((with_reducible apply AW.seq)) | ((with_reducible apply AW.regL)) | ((with_reducible apply AW.block))))
  ((with_reducible apply Step.callX fit); exact rfl; exact Try.func94; exact rfl; exact rfl; exact (ways_ok (hT.old _) hc hl hr (hgl.old _) (hgr.old _) hio hit hM hP))
  rintro v M2 _ ⟨gain, fm, rl, tau, T, rfl, rfl, hW, hF⟩
  clear hio hit
  rw [List.append_nil, List.append_assoc]
  simp only [List.length_append, List.length_cons, List.length_nil, List.cons_append, List.nil_append]
  rw [hV] at hv ⊢
  (repeat (first | (with_reducible refine AWo.cons ?_) | ((with_reducible refine Step.id ?_); first | ((with_reducible apply Step.move); exact rfl; exact rfl) | ((with_reducible apply Step.assign); exact rfl; exact rfl) | ((with_reducible apply Step.len); exact rfl; (focus (exact Sl.mk (by omega))); (focus (decide +kernel)); exact rfl) | ((with_reducible apply Step.extract); exact rfl; exact rfl; exact rfl)) | (with_reducible refine AWo.nil ?_) | ((with_reducible apply AW.seq)) | ((with_reducible apply Then.n)) | ((with_reducible apply AW.regL)) | ((with_reducible apply AW.block))))
  refine AW.loopT (fun rk t L => ∃ (k : Nat) (best : Int), rk = r - k ∧ k ≤ r ∧ Bst gr of gain k best ∧ L = [some { cells := iv (tab (of) r) }, some { cells := iv (tab (to) l) }, some { cells := iv (tab gain r) }, some { cells := iv (tab (fun z => ((fm z : Nat) : Int)) r) }] ∧ t = [(0, cv), (1, glv), (2, grv), (7, .slice (some ⟨m.length + 0, 0, none⟩) r r), (8, .slice (some ⟨m.length + 1, 0, none⟩) l l), (12, .slice (some ⟨m.length + 2, 0, none⟩) r r), (13, .slice (some ⟨m.length + 3, 0, none⟩) r r), (11, .int .i64 V), (14, .int .i64 best), (53, .int .i64 (r : Nat)), (54, .int .i64 (k : Nat))])
    ⟨_, _, _, (Or.inl ⟨rfl, (by repeat (first | exact trivial | (refine And.intro rfl ?_)))⟩), 0, -1, rfl, Nat.zero_le _, Bst.start _ _ _, rfl, rfl⟩ ?_
  rintro rk t L ⟨k, best, rfl, hk, hB, rfl, rfl⟩
  rcases Nat.lt_or_ge k r with hkl | hkg
  · have r4 := r3 k hkl
    have o1 := hM.o1 k hkl
    have rof : ∀ X : AM, Rd (m ++ (some { cells := iv (tab of r) } :: X)) (m.length + 0) k (.int .i64 (of k)) := fun X => by rw [← tab_get of hkl]; exact Rd.new rfl (iv_get (by simp; omega))
    have rga : ∀ (j : Nat), j < r → ∀ (x y : Option Blk) (X : AM), Rd (m ++ (x :: y :: some { cells := iv (tab gain r) } :: X)) (m.length + 2) j (.int .i64 (gain j)) := fun j hj x y X => by rw [← tab_get gain hj]; exact Rd.new rfl (iv_get (by simp; omega))
    have rgk := rga k hkl
    cases hgk : gr k with
    | true =>
      rw [hgk] at r4
      (repeat (first | (with_reducible refine AWo.cons ?_) | ((with_reducible refine Step.id ?_); first | ((with_reducible apply Step.gdU); exact rfl; exact rfl) | ((with_reducible apply Step.gdF); exact rfl; exact rfl; (focus (rfl))) | ((with_reducible apply Step.move); exact rfl; exact rfl) | ((with_reducible apply Step.assign); exact rfl; exact rfl) | ((with_reducible apply Step.load); exact rfl; (focus (decide +kernel)); exact rfl; (focus (exact r4.old _))) | ((with_reducible apply Step.ix1); exact rfl; (focus (assumption)); exact rfl; (focus (decide +kernel)); exact rfl; (focus (omega))) | ((with_reducible apply Step.add); exact rfl; exact rfl; (focus (omega)); exact rfl) | ((with_reducible apply Step.lss); exact rfl; exact rfl; exact rfl) | ((with_reducible apply Step.not); exact rfl; exact rfl) | ((with_reducible apply Step.pickF); exact rfl; exact rfl; exact rfl; exact rfl; (focus (rfl)))) | (with_reducible refine AWo.nil ?_) | ((with_reducible apply AW.seq)) | ((with_reducible apply Then.n)) | ((with_reducible apply AW.regL)) | ((with_reducible apply AW.block)) | ((with_reducible apply AW.drawL fit); (focus (decide +kernel))) | ((with_reducible apply InBlk.n)) | ((with_reducible apply AW.skip)) | ((with_reducible apply AW.condT); exact rfl; (focus ((simp only [decide_eq_true_eq, decide_eq_false_iff_not, Bool.not_eq_true', Bool.not_eq_false', Bool.not_true, Bool.not_false]; first | assumption | omega)))) | ((with_reducible apply AW.condF); exact rfl; (focus (rfl)))))
      exact ⟨_, _, _, by omega, (Or.inl ⟨rfl, (by repeat (first | exact trivial | (refine And.intro rfl ?_)))⟩), k + 1, best, rfl, by omega, hB.skip fun h => (by rw [hgk] at h; cases h), rfl, rfl⟩
    | false =>
      rw [hgk] at r4
      by_cases hfk : of k < 0
      · have hfk1 : of k = -1 := by
          rcases o1 with h | ⟨i, h, _⟩
          · exact h
          · omega
        by_cases hgp : 0 < gain k
        · by_cases hbn : best < 0
          · (repeat (first | (with_reducible refine AWo.cons ?_) | ((with_reducible refine Step.id ?_); first | ((with_reducible apply Step.gdT); exact rfl; exact rfl; (focus (first | rfl | (simp only [decide_eq_true_eq, decide_eq_false_iff_not, Bool.not_eq_true', Bool.not_eq_false', Bool.not_true, Bool.not_false]; first | assumption | omega)))) | ((with_reducible apply Step.gdF); exact rfl; exact rfl; (focus ((simp only [decide_eq_true_eq, decide_eq_false_iff_not, Bool.not_eq_true', Bool.not_eq_false', Bool.not_true, Bool.not_false]; first | assumption | omega)))) | ((with_reducible apply Step.move); exact rfl; exact rfl) | ((with_reducible apply Step.assign); exact rfl; exact rfl) | ((with_reducible apply Step.load); exact rfl; (focus (decide +kernel)); exact rfl; (focus (first | exact r4.old _ | exact rof _ | exact rgk _ _ _))) | ((with_reducible apply Step.ix1z); exact rfl; (focus (exact Sl.mk (by omega))); exact rfl; (focus (decide +kernel)); exact rfl; (focus (omega))) | ((with_reducible apply Step.ix1); exact rfl; (focus (assumption)); exact rfl; (focus (decide +kernel)); exact rfl; (focus (omega))) | ((with_reducible apply Step.add); exact rfl; exact rfl; (focus (omega)); exact rfl) | ((with_reducible apply Step.lss); exact rfl; exact rfl; exact rfl) | ((with_reducible apply Step.gtr); exact rfl; exact rfl; exact rfl) | ((with_reducible apply Step.not); exact rfl; exact rfl) | ((with_reducible apply Step.pickT); exact rfl; exact rfl; exact rfl; exact rfl; (focus (first | rfl | (simp only [decide_eq_true_eq, decide_eq_false_iff_not, Bool.not_eq_true', Bool.not_eq_false', Bool.not_true, Bool.not_false]; first | assumption | omega))))) | (with_reducible refine AWo.nil ?_) | ((with_reducible apply AW.seq)) | ((with_reducible apply Then.n)) | ((with_reducible apply AW.regL)) | ((with_reducible apply AW.block)) | ((with_reducible apply AW.drawL fit); (focus (decide +kernel))) | ((with_reducible apply InBlk.n)) | ((with_reducible apply AW.skip)) | ((with_reducible apply AW.condT); exact rfl; (focus (first | rfl | (simp only [decide_eq_true_eq, decide_eq_false_iff_not, Bool.not_eq_true', Bool.not_eq_false', Bool.not_true, Bool.not_false]; first | assumption | omega))))))
            exact ⟨_, _, _, by omega, (Or.inl ⟨rfl, (by repeat (first | exact trivial | (refine And.intro rfl ?_)))⟩), k + 1, k, rfl, by omega, hB.take hgk hfk1 hgp (.inl hbn), rfl, rfl⟩
          · obtain ⟨q, rfl, hqk⟩ : ∃ q : Nat, best = q ∧ q < k := by
              rcases hB with ⟨h, _⟩ | ⟨q, h, hq, _⟩
              · omega
              · exact ⟨q, h, hq⟩
            have rgq := rga q (by omega)
            by_cases hgt : gain q < gain k
            · (repeat (first | (with_reducible refine AWo.cons ?_) | ((with_reducible refine Step.id ?_); first | ((with_reducible apply Step.gdT); exact rfl; exact rfl; (focus (first | rfl | (simp only [decide_eq_true_eq, decide_eq_false_iff_not, Bool.not_eq_true', Bool.not_eq_false', Bool.not_true, Bool.not_false]; first | assumption | omega)))) | ((with_reducible apply Step.move); exact rfl; exact rfl) | ((with_reducible apply Step.assign); exact rfl; exact rfl) | ((with_reducible apply Step.load); exact rfl; (focus (decide +kernel)); exact rfl; (focus (first | exact r4.old _ | exact rof _ | exact rgk _ _ _ | exact rgq _ _ _))) | ((with_reducible apply Step.ix1z); exact rfl; (focus (exact Sl.mk (by omega))); exact rfl; (focus (decide +kernel)); exact rfl; (focus (omega))) | ((with_reducible apply Step.ix1); exact rfl; (focus (assumption)); exact rfl; (focus (decide +kernel)); exact rfl; (focus (omega))) | ((with_reducible apply Step.add); exact rfl; exact rfl; (focus (omega)); exact rfl) | ((with_reducible apply Step.lss); exact rfl; exact rfl; exact rfl) | ((with_reducible apply Step.gtr); exact rfl; exact rfl; exact rfl) | ((with_reducible apply Step.not); exact rfl; exact rfl) | ((with_reducible apply Step.pickT); exact rfl; exact rfl; exact rfl; exact rfl; (focus (first | rfl | (simp only [decide_eq_true_eq, decide_eq_false_iff_not, Bool.not_eq_true', Bool.not_eq_false', Bool.not_true, Bool.not_false]; first | assumption | omega)))) | ((with_reducible apply Step.pickF); exact rfl; exact rfl; exact rfl; exact rfl; (focus (rfl)))) | (with_reducible refine AWo.nil ?_) | ((with_reducible apply AW.seq)) | ((with_reducible apply Then.n)) | ((with_reducible apply AW.regL)) | ((with_reducible apply AW.block)) | ((with_reducible apply AW.drawL fit); (focus (decide +kernel))) | ((with_reducible apply InBlk.n)) | ((with_reducible apply AW.skip)) | ((with_reducible apply AW.condT); exact rfl; (focus ((simp only [decide_eq_true_eq, decide_eq_false_iff_not, Bool.not_eq_true', Bool.not_eq_false', Bool.not_true, Bool.not_false]; first | assumption | omega))))))
              exact ⟨_, _, _, by omega, (Or.inl ⟨rfl, (by repeat (first | exact trivial | (refine And.intro rfl ?_)))⟩), k + 1, k, rfl, by omega, hB.take hgk hfk1 hgp (.inr (by rw [Int.toNat_natCast]; exact hgt)), rfl, rfl⟩
            · (repeat (first | (with_reducible refine AWo.cons ?_) | ((with_reducible refine Step.id ?_); first | ((with_reducible apply Step.gdT); exact rfl; exact rfl; (focus (first | rfl | (simp only [decide_eq_true_eq, decide_eq_false_iff_not, Bool.not_eq_true', Bool.not_eq_false', Bool.not_true, Bool.not_false]; first | assumption | omega)))) | ((with_reducible apply Step.move); exact rfl; exact rfl) | ((with_reducible apply Step.assign); exact rfl; exact rfl) | ((with_reducible apply Step.load); exact rfl; (focus (decide +kernel)); exact rfl; (focus (first | exact r4.old _ | exact rof _ | exact rgk _ _ _ | exact rgq _ _ _))) | ((with_reducible apply Step.ix1z); exact rfl; (focus (exact Sl.mk (by omega))); exact rfl; (focus (decide +kernel)); exact rfl; (focus (omega))) | ((with_reducible apply Step.ix1); exact rfl; (focus (assumption)); exact rfl; (focus (decide +kernel)); exact rfl; (focus (omega))) | ((with_reducible apply Step.add); exact rfl; exact rfl; (focus (omega)); exact rfl) | ((with_reducible apply Step.lss); exact rfl; exact rfl; exact rfl) | ((with_reducible apply Step.gtr); exact rfl; exact rfl; exact rfl) | ((with_reducible apply Step.not); exact rfl; exact rfl) | ((with_reducible apply Step.pickT); exact rfl; exact rfl; exact rfl; exact rfl; (focus (first | rfl | (simp only [decide_eq_true_eq, decide_eq_false_iff_not, Bool.not_eq_true', Bool.not_eq_false', Bool.not_true, Bool.not_false]; first | assumption | omega)))) | ((with_reducible apply Step.pickF); exact rfl; exact rfl; exact rfl; exact rfl; (focus (rfl)))) | (with_reducible refine AWo.nil ?_) | ((with_reducible apply AW.seq)) | ((with_reducible apply Then.n)) | ((with_reducible apply AW.regL)) | ((with_reducible apply AW.block)) | ((with_reducible apply AW.drawL fit); (focus (decide +kernel))) | ((with_reducible apply InBlk.n)) | ((with_reducible apply AW.skip)) | ((with_reducible apply AW.condT); exact rfl; (focus ((simp only [decide_eq_true_eq, decide_eq_false_iff_not, Bool.not_eq_true', Bool.not_eq_false', Bool.not_true, Bool.not_false]; first | assumption | omega)))) | ((with_reducible apply AW.condF); exact rfl; (focus ((simp only [decide_eq_true_eq, decide_eq_false_iff_not, Bool.not_eq_true', Bool.not_eq_false', Bool.not_true, Bool.not_false]; first | assumption | omega))))))
              exact ⟨_, _, _, by omega, (Or.inl ⟨rfl, (by repeat (first | exact trivial | (refine And.intro rfl ?_)))⟩), k + 1, q, rfl, by omega, hB.skip fun _ _ _ => ⟨by omega, by rw [Int.toNat_natCast]; omega⟩, rfl, rfl⟩
        · (repeat (first | (with_reducible refine AWo.cons ?_) | ((with_reducible refine Step.id ?_); first | ((with_reducible apply Step.gdU); exact rfl; exact rfl) | ((with_reducible apply Step.gdT); exact rfl; exact rfl; (focus (first | rfl | (simp only [decide_eq_true_eq, decide_eq_false_iff_not, Bool.not_eq_true', Bool.not_eq_false', Bool.not_true, Bool.not_false]; first | assumption | omega)))) | ((with_reducible apply Step.gdF); exact rfl; exact rfl; (focus ((simp only [decide_eq_true_eq, decide_eq_false_iff_not, Bool.not_eq_true', Bool.not_eq_false', Bool.not_true, Bool.not_false]; first | assumption | omega)))) | ((with_reducible apply Step.move); exact rfl; exact rfl) | ((with_reducible apply Step.assign); exact rfl; exact rfl) | ((with_reducible apply Step.load); exact rfl; (focus (decide +kernel)); exact rfl; (focus (first | exact r4.old _ | exact rof _ | exact rgk _ _ _))) | ((with_reducible apply Step.ix1z); exact rfl; (focus (exact Sl.mk (by omega))); exact rfl; (focus (decide +kernel)); exact rfl; (focus (omega))) | ((with_reducible apply Step.ix1); exact rfl; (focus (assumption)); exact rfl; (focus (decide +kernel)); exact rfl; (focus (omega))) | ((with_reducible apply Step.add); exact rfl; exact rfl; (focus (omega)); exact rfl) | ((with_reducible apply Step.lss); exact rfl; exact rfl; exact rfl) | ((with_reducible apply Step.gtr); exact rfl; exact rfl; exact rfl) | ((with_reducible apply Step.not); exact rfl; exact rfl) | ((with_reducible apply Step.pickT); exact rfl; exact rfl; exact rfl; exact rfl; (focus (first | rfl | (simp only [decide_eq_true_eq, decide_eq_false_iff_not, Bool.not_eq_true', Bool.not_eq_false', Bool.not_true, Bool.not_false]; first | assumption | omega)))) | ((with_reducible apply Step.pickF); exact rfl; exact rfl; exact rfl; exact rfl; (focus ((simp only [decide_eq_true_eq, decide_eq_false_iff_not, Bool.not_eq_true', Bool.not_eq_false', Bool.not_true, Bool.not_false]; first | assumption | omega))))) | (with_reducible refine AWo.nil ?_) | ((with_reducible apply AW.seq)) | ((with_reducible apply Then.n)) | ((with_reducible apply AW.regL)) | ((with_reducible apply AW.block)) | ((with_reducible apply AW.drawL fit); (focus (decide +kernel))) | ((with_reducible apply InBlk.n)) | ((with_reducible apply AW.skip)) | ((with_reducible apply AW.condT); exact rfl; (focus ((simp only [decide_eq_true_eq, decide_eq_false_iff_not, Bool.not_eq_true', Bool.not_eq_false', Bool.not_true, Bool.not_false]; first | assumption | omega)))) | ((with_reducible apply AW.condF); exact rfl; (focus (rfl)))))
          exact ⟨_, _, _, by omega, (Or.inl ⟨rfl, (by repeat (first | exact trivial | (refine And.intro rfl ?_)))⟩), k + 1, best, rfl, by omega, hB.skip fun _ _ h => absurd h hgp, rfl, rfl⟩
      · (repeat (first | (with_reducible refine AWo.cons ?_) | ((with_reducible refine Step.id ?_); first | ((with_reducible apply Step.gdU); exact rfl; exact rfl) | ((with_reducible apply Step.gdT); exact rfl; exact rfl; (focus (rfl))) | ((with_reducible apply Step.gdF); exact rfl; exact rfl; (focus (first | rfl | (simp only [decide_eq_true_eq, decide_eq_false_iff_not, Bool.not_eq_true', Bool.not_eq_false', Bool.not_true, Bool.not_false]; first | assumption | omega)))) | ((with_reducible apply Step.move); exact rfl; exact rfl) | ((with_reducible apply Step.assign); exact rfl; exact rfl) | ((with_reducible apply Step.load); exact rfl; (focus (decide +kernel)); exact rfl; (focus (first | exact r4.old _ | exact rof _))) | ((with_reducible apply Step.ix1z); exact rfl; (focus (exact Sl.mk (by omega))); exact rfl; (focus (decide +kernel)); exact rfl; (focus (omega))) | ((with_reducible apply Step.ix1); exact rfl; (focus (assumption)); exact rfl; (focus (decide +kernel)); exact rfl; (focus (omega))) | ((with_reducible apply Step.add); exact rfl; exact rfl; (focus (omega)); exact rfl) | ((with_reducible apply Step.lss); exact rfl; exact rfl; exact rfl) | ((with_reducible apply Step.not); exact rfl; exact rfl) | ((with_reducible apply Step.pickT); exact rfl; exact rfl; exact rfl; exact rfl; (focus (rfl))) | ((with_reducible apply Step.pickF); exact rfl; exact rfl; exact rfl; exact rfl; (focus (first | rfl | (simp only [decide_eq_true_eq, decide_eq_false_iff_not, Bool.not_eq_true', Bool.not_eq_false', Bool.not_true, Bool.not_false]; first | assumption | omega))))) | (with_reducible refine AWo.nil ?_) | ((with_reducible apply AW.seq)) | ((with_reducible apply Then.n)) | ((with_reducible apply AW.regL)) | ((with_reducible apply AW.block)) | ((with_reducible apply AW.drawL fit); (focus (decide +kernel))) | ((with_reducible apply InBlk.n)) | ((with_reducible apply AW.skip)) | ((with_reducible apply AW.condT); exact rfl; (focus ((simp only [decide_eq_true_eq, decide_eq_false_iff_not, Bool.not_eq_true', Bool.not_eq_false', Bool.not_true, Bool.not_false]; first | assumption | omega)))) | ((with_reducible apply AW.condF); exact rfl; (focus (rfl)))))
        exact ⟨_, _, _, by omega, (Or.inl ⟨rfl, (by repeat (first | exact trivial | (refine And.intro rfl ?_)))⟩), k + 1, best, rfl, by omega, hB.skip fun _ h => absurd h (by omega), rfl, rfl⟩
  have hkr : k = r := by omega
  subst k
  rcases hB with ⟨rfl, hno⟩ | ⟨q, rfl, hqr, hgq, hfq, hgp, hmx⟩
  · have hwm := worth_max hM hP hW hF hno
    rw [hV] at hwm
    subst hwm
    (repeat (first | (with_reducible refine AWo.cons ?_) | ((with_reducible refine Step.id ?_); first | ((with_reducible apply Step.move); exact rfl; exact rfl) | ((with_reducible apply Step.assign); exact rfl; exact rfl) | ((with_reducible apply Step.lss); exact rfl; exact rfl; exact rfl)) | (with_reducible refine AWo.nil ?_) | ((with_reducible apply AW.seq)) | ((with_reducible apply Then.n)) | ((with_reducible apply AW.regL)) | ((with_reducible apply AW.exit)) | ((with_reducible apply InBlk.hit)) | ((with_reducible apply Then.e)) | ((with_reducible apply AW.condT); exact rfl; (focus (rfl))) | ((with_reducible apply AW.condF); exact rfl; (focus ((simp only [decide_eq_true_eq, decide_eq_false_iff_not, Bool.not_eq_true', Bool.not_eq_false', Bool.not_true, Bool.not_false]; first | assumption | omega))))))
    (refine AW.retD (l := [(6, _)]) (by repeat (first | exact trivial | (refine And.intro ⟨rfl, by (exact .int _ _)⟩ ?_))) ?_; (repeat (first | refine Then.r ?_ | refine InBlk.r ?_)))
    exact ⟨_, rfl, rfl, rfl⟩
  · obtain ⟨rk, hrk⟩ := hW.rank
    obtain ⟨hP', hk0⟩ := Wk.start hM hP hW hF rk hqr hgq hfq hgp hmx
    have hgle := hW.le hM hP hqr
    rw [hV] at hk0
    have rgq : ∀ (x y : Option Blk) (X : AM), Rd (m ++ (x :: y :: some { cells := iv (tab gain r) } :: X)) (m.length + 2) q (.int .i64 (gain q)) := fun x y X => by rw [← tab_get gain hqr]; exact Rd.new rfl (iv_get (by simp; omega))
    have hq0 : ¬ ((q : Nat) : Int) < 0 := by omega
    (repeat (first | (with_reducible refine AWo.cons ?_) | ((with_reducible refine Step.id ?_); first | ((with_reducible apply Step.move); exact rfl; exact rfl) | ((with_reducible apply Step.assign); exact rfl; exact rfl) | ((with_reducible apply Step.load); exact rfl; (focus (decide +kernel)); exact rfl; (focus (exact rgq _ _ _))) | ((with_reducible apply Step.ix1z); exact rfl; (focus (exact Sl.mk (by omega))); exact rfl; (focus (decide +kernel)); exact rfl; (focus (omega))) | ((with_reducible apply Step.add); exact rfl; exact rfl; (focus (omega)); exact rfl) | ((with_reducible apply Step.lss); exact rfl; exact rfl; exact rfl)) | (with_reducible refine AWo.nil ?_) | ((with_reducible apply AW.seq)) | ((with_reducible apply Then.n)) | ((with_reducible apply AW.regL)) | ((with_reducible apply AW.block)) | ((with_reducible apply AW.exit)) | ((with_reducible apply InBlk.hit)) | ((with_reducible apply Then.e)) | ((with_reducible apply AW.skip)) | ((with_reducible apply AW.condF); exact rfl; (focus (first | rfl | (simp only [decide_eq_true_eq, decide_eq_false_iff_not, Bool.not_eq_true', Bool.not_eq_false', Bool.not_true, Bool.not_false]; first | assumption | omega))))))
    refine AW.loopT (fun rk' t L => ∃ (of' to' : Nat → Int) (j : Int), rk' = (if j < 0 then 0 else rk j.toNat + 1) ∧ Wk c l r gl gr of to a b gain rl rk A (A - gain q) (V + gain q) of' to' j ∧ L = [some { cells := iv (tab (of') r) }, some { cells := iv (tab (to') l) }, some { cells := iv (tab gain r) }, some { cells := iv (tab (fun z => ((fm z : Nat) : Int)) r) }] ∧ t = [(0, cv), (1, glv), (2, grv), (7, .slice (some ⟨m.length + 0, 0, none⟩) r r), (8, .slice (some ⟨m.length + 1, 0, none⟩) l l), (12, .slice (some ⟨m.length + 2, 0, none⟩) r r), (13, .slice (some ⟨m.length + 3, 0, none⟩) r r), (11, .int .i64 (V + gain q)), (16, .int .i64 j)])
      ⟨_, _, _, (Or.inl ⟨rfl, (by repeat (first | exact trivial | (refine And.intro rfl ?_)))⟩), of, to, q, rfl, hk0, rfl, rfl⟩ ?_
    clear hk0
    rintro rk' t L ⟨of', to', j, rfl, hk, rfl, rfl⟩
    rcases hk with ⟨p, rfl, hg⟩ | ⟨rfl, hM', hP2, hV'⟩
    · obtain ⟨s1, s2, s3, s4, s5⟩ := Wk.step hP hW hF hrk hP' hg
      have rfm : ∀ (x y z : Option Blk) (X : AM), Rd (m ++ (x :: y :: z :: some { cells := iv (tab (fun z => ((fm z : Nat) : Int)) r) } :: X)) (m.length + 3) p (.int .i64 ((fm p : Nat) : Int)) := fun x y z X => by
        have : (tab (fun z => ((fm z : Nat) : Int)) r).getD p 0 = ((fm p : Nat) : Int) := tab_get _ s1
        rw [← this]; exact Rd.new rfl (iv_get (by simp; omega))
      have rto : ∀ (x : Option Blk) (X : AM), Rd (m ++ (x :: some { cells := iv (tab to' l) } :: X)) (m.length + 1) (fm p) (.int .i64 (to (fm p))) := fun x X => by rw [← s3, ← tab_get to' s2]; exact Rd.new rfl (iv_get (by simp; omega))
      generalize fm p = i at *
      (repeat (first | (with_reducible refine AWo.cons ?_) | ((with_reducible refine Step.id ?_); first | ((with_reducible apply Step.move); exact rfl; exact rfl) | ((with_reducible apply Step.assign); exact rfl; exact rfl) | ((with_reducible apply Step.load); exact rfl; (focus (decide +kernel)); exact rfl; (focus (first | exact rfm _ _ _ _ | exact rto _ _))) | ((with_reducible apply Step.ix1z); exact rfl; (focus (exact Sl.mk (by omega))); exact rfl; (focus (decide +kernel)); exact rfl; (focus (omega))) | ((with_reducible apply Step.geq); exact rfl; exact rfl; exact rfl) | ((with_reducible apply Step.store (k := 0)); exact rfl; exact rfl; exact rfl; exact rfl; (focus (decide +kernel)); exact rfl; exact rfl; (focus (first | omega | (simp [iv, bv]; done) | (simp [iv, bv]; omega))); (focus (first | (simp only [List.nil_append, List.cons_append, List.set_cons_zero, List.set_cons_succ, iv_set, bv_set, iv_rep, bv_rep]; done) | (simp only [List.nil_append, List.cons_append, List.set_cons_zero, List.set_cons_succ, iv_set, bv_set, iv_rep, bv_rep]; rfl) | rfl))) | ((with_reducible apply Step.store (k := 1)); exact rfl; exact rfl; exact rfl; exact rfl; (focus (decide +kernel)); exact rfl; exact rfl; (focus (first | omega | (simp [iv, bv]; done) | (simp [iv, bv]; omega))); (focus (first | (simp only [List.nil_append, List.cons_append, List.set_cons_zero, List.set_cons_succ, iv_set, bv_set, iv_rep, bv_rep]; done) | (simp only [List.nil_append, List.cons_append, List.set_cons_zero, List.set_cons_succ, iv_set, bv_set, iv_rep, bv_rep]; rfl) | rfl)))) | (with_reducible refine AWo.nil ?_) | ((with_reducible apply AW.seq)) | ((with_reducible apply Then.n)) | ((with_reducible apply AW.regL)) | ((with_reducible apply AW.block)) | ((with_reducible apply InBlk.n)) | ((with_reducible apply AW.skip)) | ((with_reducible apply AW.condT); exact rfl; (focus (rfl)))))
      refine ⟨_, _, [some { cells := iv (tab (up of' p (i : Int)) r) }, some { cells := iv (tab (up to' i (p : Int)) l) }, some { cells := iv (tab gain r) }, some { cells := iv (tab (fun z => ((fm z : Nat) : Int)) r) }], ?_, by rw [tab_set, tab_set]; exact (Or.inl ⟨rfl, (by repeat (first | exact trivial | (refine And.intro rfl ?_)))⟩), _, _, to i, rfl, s4, rfl, rfl⟩
      rw [if_neg (show ¬ ((p : Nat) : Int) < 0 by omega), Int.toNat_natCast]
      rcases s5 with e | ⟨p', e, h⟩
      · rw [e, if_pos (by omega)]; omega
      · rw [e, if_neg (by omega), Int.toNat_natCast]; omega
    · (repeat (first | (with_reducible refine AWo.cons ?_) | ((with_reducible refine Step.id ?_); first | ((with_reducible apply Step.move); exact rfl; exact rfl) | ((with_reducible apply Step.geq); exact rfl; exact rfl; exact rfl)) | (with_reducible refine AWo.nil ?_) | ((with_reducible apply AW.seq)) | ((with_reducible apply Then.n)) | ((with_reducible apply AW.regL)) | ((with_reducible apply AW.exit)) | ((with_reducible apply InBlk.n)) | ((with_reducible apply InBlk.hit)) | ((with_reducible apply Then.e)) | ((with_reducible apply AW.condF); exact rfl; (focus (rfl)))))
      have hv2 := valT_le hM' hc9
      refine ⟨_, [(0, cv), (1, glv), (2, grv), (7, .slice (some ⟨m.length + 0, 0, none⟩) r r), (8, .slice (some ⟨m.length + 1, 0, none⟩) l l), (11, .int .i64 (V + gain q))], [some { cells := iv (tab (of') r) }, some { cells := iv (tab (to') l) }], ?_, (Back.trim rfl rfl (by repeat (first | exact CellsOk.nil | refine CellsOk.cons (by exact g0_iv _) ?_)) (by repeat (first | exact trivial | (refine And.intro ⟨rfl, by (first | exact .int _ _ | exact .slice _ _ _ _ (by first | (simp; done) | omega | (simp; omega)) | exact Ren.of_sl (by assumption) (by first | omega | (simp; omega)))⟩ ?_)))), of', to', _, _, _, rfl, hM', hP2, rfl, by rw [hV']⟩
      rw [hV']
      rw [hV'] at hv2
      omega
end Go.Proofs.Ytajpngnphbdnnaa.Abs
namespace Go.Proofs.Ytajpngnphbdnnaa.Abs
set_option linter.unusedSimpArgs false
set_option linter.unusedVariables false
open Go.RowKit
open Go.Proofs.Ytajpngnphbdnnaa.Sim
open Go.Proofs
open Hung
theorem brow_new {M L : AM} {k n : Nat} {g : Nat → Bool} (h : L[k]? = some (some { cells := bv (tabB g n) })) : BRow (M ++ L) (.slice (some ⟨M.length + k, 0, none⟩) n n) g n := by
  refine ⟨M.length + k, 0, Sl.mk (Nat.le_refl _), by have := (List.getElem?_eq_some_iff.1 h).1; simp; omega, fun j hj => ?_⟩
  have := bv_get (l := tabB g n) (k := j) (by simpa using hj)
  rw [tabB_get g hj] at this
  exact Rd.new h (by rw [Nat.zero_add]; exact this)
theorem tab_snoc (o : Nat → Int) (i : Nat) : tab o (i + 1) = tab o i ++ [o i] := by simp [tab, List.range_succ]
end Go.Proofs.Ytajpngnphbdnnaa.Abs
namespace Go.Proofs.Ytajpngnphbdnnaa.Abs
set_option linter.unusedSimpArgs false
set_option linter.unusedVariables false
open Go.RowKit
open Go.Proofs.Ytajpngnphbdnnaa.Sim
section
variable {P : Program} {nt : Nat} {ops : Array Oper} {t : Fm} {m : AM} {K : Fm → AM → Prop} {d T : Nat} {p : String} {af : Array Edge}
theorem rel_nil {R : Pl} {v : Value} (h : Rel R (.slice none 0 0) v) : v = .slice none 0 0 := by cases h; rfl
theorem rel_int {R : Pl} {v : Value} {k : IntKind} {n : Int} (h : Rel R (.int k n) v) : v = .int k n := by cases h; rfl
theorem Step.capNil {x : Operand} {X e : TypeId} (hx : evo t x = some (.slice none 0 0)) (hX : P.underlying X = some (.slice e)) (hlt : Nat.blt d nt = true) (hK : K (put t d (.int .i64 0)) m) :
    Step P nt ops ⟨some d, .call ⟨.builtin .cap, #[x], #[X]⟩, T, p, af, none⟩ t m K := by
  refine .l rfl rfl hlt rfl (by simp [Op.operands, Call.operands, hx]) ?_
  intro base R w a Q next hb hm hev hn
  have hr : Rel R (evD t x) (a.eval x) := hev x (by simp [Op.operands, Call.operands])
  rw [evD_of hx] at hr
  have he : a.eval x = .slice none 0 0 := rel_nil hr
  exact wp_of_does rfl (.inl (by simp [execOp, resolve, invoke, builtin, he, Builtin.cap_, run_underlying hX]; rfl)) (hn R (.int .i64 0) _ m w (.int ..) (.refl hm) hK)
theorem zeros_cells {v : Value} (n : Nat) : (Builtin.zeroCells #[v] n).toList = List.replicate n v := by
  unfold Builtin.zeroCells
  apply List.ext_getElem?
  intro j
  by_cases h : j < n
  · simp [h, Nat.mod_one]
  · simp [h]
theorem Step.zeros {x y : Operand} {X Y e by_ n : Nat} {z : Value} {k kn : IntKind} (hx : evo t x = some (.slice none 0 0)) (hy : evo t y = some (.int k ((n : Nat) : Int))) (hE : elemB P X = some (e, 1, by_, #[z])) (hY : P.underlying Y = some (.int kn)) (h0 : 0 < n) (hb : n * by_ ≤ 281474976710656) (h63 : n ≤ 9223372036854775807)
    (hg : g0 z = true) (hlt : Nat.blt d nt = true) (hK : K (put t d (.slice (some ⟨m.length, 0, none⟩) n n)) (m ++ [some { cells := List.replicate n z, kind := .grow, size := 1 }])) :
    Step P nt ops ⟨some d, .call ⟨.builtin .append, #[x, y], #[X, Y]⟩, T, p, af, none⟩ t m K := by
  refine .l rfl rfl hlt rfl (by simp [Op.operands, Call.operands, hx, hy]) ?_
  intro base R w a Q next hbs hm hev hn
  have hr : Rel R (evD t x) (a.eval x) := hev x (by simp [Op.operands, Call.operands])
  rw [evD_of hx] at hr
  have he : a.eval x = .slice none 0 0 := rel_nil hr
  have hr2 : Rel R (evD t y) (a.eval y) := hev y (by simp [Op.operands, Call.operands])
  rw [evD_of hy] at hr2
  have he2 : a.eval y = .int k ((n : Nat) : Int) := rel_int hr2
  obtain ⟨hu, i, zz, h1, h2, h3, h4, h5, h6, h7⟩ := elemB_spec hE
  have hrun := Go.Lib.run_append_nil_zeros (P := P) w X Y T e i zz k kn hu hY h1 h4 n h0 (by omega) (by omega) (by rw [h3]; exact hb)
  have hp := hm.pad 1
  have hge : n ≤ grownCap w n 0 e := by
    have := grownCap_ge w n 0 e
    omega
  have hfree : (m ++ [none])[m.length]? = some none := pad_one
  have hone : ∀ j v, (List.replicate n z)[j]? = some v → v = z := fun j v h => by
    rw [List.getElem?_replicate] at h
    split at h
    · injection h with h; exact h.symm
    · cases h
  have hzz : (Builtin.zeroCells zz.cells n).toList = List.replicate n z := by rw [h5, zeros_cells]
  have hgrow := grown_ok (n := m.length) hp hbs (.inl rfl) hfree (hm.none_ _ (Nat.le_refl _)) { cells := List.replicate n z, kind := .grow, size := 1 } rfl (grownCap w n 0 e - n) (Builtin.zeroCells zz.cells n ++ Builtin.zeroCells zz.cells (grownCap w n 0 e - n)) e
    (by simp only [List.length_replicate, Array.size_append, size_zeroCells, h5]; simp <;> omega) (fun j v hj => by
      refine ⟨v, ?_, ?_, ?_⟩
      · have hjn : j < n := by have := (List.getElem?_eq_some_iff.1 hj).1; simpa using this
        rw [← hzz] at hj
        rw [Array.getElem?_append_left (by rw [← Array.length_toList, hzz]; simpa using hjn)]
        simpa using hj
      · rw [hone j v hj]; exact g0_rel hg
      · rw [hone j v hj]; exact (g0one_rel (R := R) h7).2 z (by simp))
  have hset : (m ++ List.replicate 1 none).set m.length (some { cells := List.replicate n z, kind := .grow, size := 1 }) = m ++ [some { cells := List.replicate n z, kind := .grow, size := 1 }] := by
    rw [List.set_append_right _ _ (Nat.le_refl _)]; simp
  rw [hset] at hgrow
  exact wp_of_does rfl (.inl (by simp [execOp, resolve, invoke, builtin, he, he2, hrun])) (hn _ _ _ _ _ (slice_put (n := m.length) (l := n) (c := grownCap w n 0 e) (x := grownCap w n 0 e - n) (by omega)) ⟨hgrow.le, hgrow.rep, hgrow.os, hgrow.tape, hgrow.output, hgrow.size, fun k hk ho => hgrow.keep k hk fun ho' => ho ho'.pad, fun k ho => (hgrow.sub k ho).imp (fun h => h) Owned.pad⟩ hK)
theorem acells_ints {m : AM} {v : Value} {B : List Int} (h : Ints m v B) : aSliceLen v = some B.length ∧ acells m 1 B.length v = some (iv B) := by
  obtain ⟨a, o, h1, h2, h3⟩ := h
  rcases h1 with ⟨rfl, hn⟩ | ⟨c, hc, rfl⟩ | ⟨hn, o', k, rfl⟩
  · have : B = [] := List.eq_nil_of_length_eq_zero hn
    subst this; exact ⟨rfl, rfl⟩
  · refine ⟨rfl, ?_⟩
    simp only [acells]
    by_cases h0 : B.length = 0
    · have : B = [] := List.eq_nil_of_length_eq_zero h0
      subst this; rfl
    · rw [if_neg h0]
      obtain ⟨b, hb, _⟩ := h3 0 (by omega)
      rw [hb]
      have hget : ∀ k, k < B.length → b.cells[o + k]? = some (.int .i64 (B.getD k 0)) := fun k hk => by
        obtain ⟨b', hb', hv⟩ := h3 k hk
        rw [hb] at hb'
        injection hb' with hb'
        injection hb' with hb'
        subst hb'; exact hv
      have hlast := (List.getElem?_eq_some_iff.1 (hget (B.length - 1) (by omega))).1
      simp only
      rw [if_pos ⟨Nat.le_refl _, by omega⟩]
      congr 1
      apply List.ext_getElem?
      intro k
      rw [Nat.mul_one]
      by_cases hk : k < B.length
      · rw [List.getElem?_take_of_lt hk, List.getElem?_drop, hget k hk, iv_get hk]
      · rw [List.getElem?_eq_none (by simp; omega), List.getElem?_eq_none (by simp [iv]; omega)]
  · have : B = [] := List.eq_nil_of_length_eq_zero hn
    subst this; exact ⟨rfl, rfl⟩
theorem Step.appW {x y : Operand} {X Y e e' : TypeId} {by_ : Nat} {z : Array Value} {k q n cp : Nat} {c old Z : List Value} {B : List Int} {yv : Value} {b : Blk} {M L L' : AM} (hk : L.length = k) (hx : evo t x = some (.slice (some ⟨M.length + q, 0, none⟩) n cp)) (hy : evo t y = some yv) (hI : Ints (M ++ L) yv B) (hE : elemB P X = some (e, 1, by_, z)) (hY : P.underlying Y = some (.slice e'))
    (hq : L[q]? = some (some b)) (hbs : b.kind.solid = true) (hbc : b.cells = c ++ (old ++ Z)) (hc : c.length = n) (ho : old.length = B.length) (hcp : n + B.length ≤ cp) (hlt : Nat.blt d nt = true)
    (hL : L.set q (some { b with cells := c ++ (iv B ++ Z) }) ++ [none] = L') (hK : K (put t d (.slice (some ⟨M.length + q, 0, none⟩) (n + B.length) cp)) (M ++ L')) :
    Step P nt ops ⟨some d, .call ⟨.builtin .append, #[x, y], #[X, Y]⟩, T, p, af, none⟩ t (M ++ L) K := by
  subst hL
  refine .l rfl rfl hlt rfl (by simp [Op.operands, Call.operands, hx, hy]) (loudN hk rfl (v := .slice (some ⟨M.length + q, 0, none⟩) (n + B.length) cp) ?_ hK)
  obtain ⟨h1, h2⟩ := acells_ints (hI.old [none])
  have hql : q < L.length := (List.getElem?_eq_some_iff.1 hq).1
  have hg : ((M ++ L) ++ [none])[M.length + q]? = some (some b) := by rw [List.append_assoc, get_app, List.getElem?_append_left hql, hq]
  simp only [aloud, evD_of hx, evD_of hy, aappend, hE, hY, h1, h2]
  rw [if_neg (by simp [iv, Value.oneCell'])]
  by_cases h0 : B.length = 0
  · have hB : B = [] := List.eq_nil_of_length_eq_zero h0
    subst hB
    have hold : old = [] := List.eq_nil_of_length_eq_zero ho
    subst hold
    rw [if_pos (show ([] : List Int).length = 0 from rfl)]
    have e1 : ({ b with cells := c ++ (iv [] ++ Z) } : Blk) = b := by
      have : c ++ (iv [] ++ Z) = b.cells := by rw [hbc]; rfl
      rw [this]
    have e2 : L.set q (some b) = L := by
      apply List.ext_getElem?
      intro j
      by_cases hj : q = j
      · subst hj; rw [List.getElem?_set_self hql, hq]
      · rw [List.getElem?_set_ne hj]
    rw [e1, e2, List.append_assoc]; rfl
  · rw [if_neg h0]
    simp only [hg]
    have hbl : b.cells.length = n + B.length + Z.length := by rw [hbc]; simp [hc, ho]; omega
    rw [if_pos hcp, if_pos (by simp [hbs, hbl, iv])]
    have hsp : splice b.cells (0 + n * 1) (iv B) = c ++ (iv B ++ Z) := by
      unfold splice
      rw [hbc, Nat.zero_add, Nat.mul_one, ← hc]
      have : (iv B).length = old.length := by rw [ho]; simp [iv]
      rw [this]
      simp
    rw [hsp]
    simp only [Option.some.injEq, Prod.mk.injEq, true_and]
    rw [List.append_assoc, set_app, List.set_append_left _ _ hql]
theorem Step.app00 {x y : Operand} {X Y e e' : TypeId} {s by_ : Nat} {z : Array Value} {k : Nat} {yv : Value} {M L L' : AM} (hk : L.length = k) (hx : evo t x = some (.slice none 0 0)) (hy : evo t y = some yv) (hI : Ints (M ++ L) yv []) (hE : elemB P X = some (e, s, by_, z)) (hY : P.underlying Y = some (.slice e')) (hs : Nat.blt 0 s = true)
    (hlt : Nat.blt d nt = true) (hL : L ++ [none] = L') (hK : K (put t d (.slice none 0 0)) (M ++ L')) :
    Step P nt ops ⟨some d, .call ⟨.builtin .append, #[x, y], #[X, Y]⟩, T, p, af, none⟩ t (M ++ L) K := by
  subst hL
  simp at hs
  refine .l rfl rfl hlt rfl (by simp [Op.operands, Call.operands, hx, hy]) (loudN hk rfl (v := .slice none 0 0) ?_ hK)
  obtain ⟨h1, h2⟩ := acells_ints (hI.old [none])
  have h1 : aSliceLen yv = some 0 := h1
  have h3 : acells (M ++ L ++ [none]) s 0 yv = some [] := by
    obtain ⟨a, o, g, _⟩ := hI
    rcases g with ⟨rfl, _⟩ | ⟨c, _, rfl⟩ | ⟨_, o', k', rfl⟩ <;> rfl
  simp only [aloud, evD_of hx, evD_of hy, aappend, hE, hY, h1, h3]
  rw [if_neg (by simp; omega), if_pos trivial, List.append_assoc]
end
end Go.Proofs.Ytajpngnphbdnnaa.Abs
namespace Go.Proofs.Ytajpngnphbdnnaa.Abs
set_option linter.unusedSimpArgs false
set_option linter.unusedVariables false
open Go.RowKit
open Go.Proofs.Ytajpngnphbdnnaa.Sim
open Go.Proofs
set_option maxHeartbeats 4000000 in
set_option maxRecDepth 100000 in
theorem grow0_ok {m : AM} : ACall Try.prog 98 #[.slice none 0 0, .int .i64 0] m (Ret (.slice none 0 0) m) := by
  refine ACall.start Try.func98 rfl rfl ?_
  (repeat (first | (with_reducible refine AWo.cons ?_) | ((with_reducible refine Step.id ?_); first | ((with_reducible apply Step.move); exact rfl; exact rfl) | ((with_reducible apply Step.assign); exact rfl; exact rfl) | ((with_reducible apply Step.lss); exact rfl; exact rfl; exact rfl)) | (with_reducible refine AWo.nil ?_) | ((with_reducible apply AW.seq)) | ((with_reducible apply Then.n)) | ((with_reducible apply AW.regL)) | ((with_reducible apply AW.skip)) | ((with_reducible apply AW.condF); exact rfl; (focus (rfl)))))
  ((with_reducible apply Step.capNil); exact rfl; exact un27; exact rfl)
  (repeat (first | (with_reducible refine AWo.cons ?_) | ((with_reducible refine Step.id ?_); first | ((with_reducible apply Step.move); exact rfl; exact rfl) | ((with_reducible apply Step.assign); exact rfl; exact rfl) | ((with_reducible apply Step.sub); exact rfl; exact rfl; (focus (omega)); exact rfl) | ((with_reducible apply Step.gtr); exact rfl; exact rfl; exact rfl) | ((with_reducible apply Step.len); exact rfl; (focus (exact Sl.nil 0 0)); (focus (decide +kernel)); exact rfl)) | (with_reducible refine AWo.nil ?_) | ((with_reducible apply AW.seq)) | ((with_reducible apply Then.n)) | ((with_reducible apply AW.regL)) | ((with_reducible apply AW.skip)) | ((with_reducible apply AW.condF); exact rfl; (focus (rfl)))))
  (refine AW.retD (l := [(4, _)]) (by repeat (first | exact trivial | (refine And.intro ⟨rfl, by (exact Ren.of_g0 rfl)⟩ ?_))) ?_; (repeat (first | refine Then.r ?_ | refine InBlk.r ?_)))
  exact ⟨_, rfl, rfl, rfl⟩
set_option maxHeartbeats 4000000 in
set_option maxRecDepth 100000 in
theorem grow_ok {m : AM} {n : Nat} (h0 : 0 < n) (hn : n ≤ 1000) : ACall Try.prog 98 #[.slice none 0 0, .int .i64 (n : Nat)] m (More (fun M v => v = .slice (some ⟨m.length + 0, 0, none⟩) 0 n ∧ M = m ++ [some { cells := List.replicate n (.int .i64 0), kind := .grow, size := 1 }]) m) := by
  refine ACall.start Try.func98 rfl rfl ?_
  (repeat (first | (with_reducible refine AWo.cons ?_) | ((with_reducible refine Step.id ?_); first | ((with_reducible apply Step.move); exact rfl; exact rfl) | ((with_reducible apply Step.assign); exact rfl; exact rfl) | ((with_reducible apply Step.lss); exact rfl; exact rfl; exact rfl)) | (with_reducible refine AWo.nil ?_) | ((with_reducible apply AW.seq)) | ((with_reducible apply Then.n)) | ((with_reducible apply AW.regL)) | ((with_reducible apply AW.skip)) | ((with_reducible apply AW.condF); exact rfl; (focus (rfl)))))
  ((with_reducible apply Step.capNil); exact rfl; exact un27; exact rfl)
  (repeat (first | (with_reducible refine AWo.cons ?_) | ((with_reducible refine Step.id ?_); first | ((with_reducible apply Step.move); exact rfl; exact rfl) | ((with_reducible apply Step.assign); exact rfl; exact rfl) | ((with_reducible apply Step.sub); exact rfl; exact rfl; (focus (omega)); exact rfl) | ((with_reducible apply Step.gtr); exact rfl; exact rfl; exact rfl) | ((with_reducible apply Step.len); exact rfl; (focus (exact Sl.nil 0 0)); (focus (decide +kernel)); exact rfl)) | (with_reducible refine AWo.nil ?_) | ((with_reducible apply AW.seq)) | ((with_reducible apply Then.n)) | ((with_reducible apply AW.regL)) | ((with_reducible apply AW.condT); exact rfl; (focus ((simp only [decide_eq_true_eq, decide_eq_false_iff_not, Bool.not_eq_true', Bool.not_eq_false', Bool.not_true, Bool.not_false]; first | assumption | omega))))))
  ((with_reducible apply Step.capNil); exact rfl; exact un27; exact rfl)
  (repeat ((with_reducible refine AWo.cons ?_)))
  ((with_reducible apply Step.slToNil); exact rfl; exact rfl; exact rfl; exact un27; exact sz3; exact rfl)
  (repeat (first | (with_reducible refine AWo.cons ?_) | ((with_reducible refine Step.id ?_); ((with_reducible apply Step.move); exact rfl; exact rfl))))
  ((with_reducible apply Step.zeros (n := n)); exact rfl; exact rfl; exact el27; exact Try.underlying3; exact h0; (focus (omega)); (focus (omega)); exact rfl; exact rfl)
  (repeat (first | (with_reducible refine AWo.cons ?_) | ((with_reducible refine Step.id ?_); first | ((with_reducible apply Step.move); exact rfl; exact rfl) | ((with_reducible apply Step.len); exact rfl; (focus (exact Sl.nil 0 0)); (focus (decide +kernel)); exact rfl))))
  ((with_reducible apply Step.slTo (h := 0)); exact rfl; exact rfl; exact rfl; exact (Nat.zero_le _); exact un27; exact sz3; exact rfl)
  (repeat (first | (with_reducible refine AWo.cons ?_) | ((with_reducible refine Step.id ?_); first | ((with_reducible apply Step.move); exact rfl; exact rfl) | ((with_reducible apply Step.assign); exact rfl; exact rfl)) | (with_reducible refine AWo.nil ?_) | ((with_reducible apply AW.seq)) | ((with_reducible apply Then.n)) | ((with_reducible apply AW.regL))))
  (refine AW.ret ?_; (repeat (first | refine Then.r ?_ | refine InBlk.r ?_)))
  refine ⟨_, rfl, [some { cells := List.replicate n (.int .i64 0), kind := .grow, size := 1 }], by rw [List.append_nil], ?_, by rw [List.append_nil]⟩
  rw [List.append_nil]; rfl
set_option maxHeartbeats 8000000 in
set_option maxRecDepth 100000 in
theorem concat_ok {m : AM} {a : Nat} {av bv : Value} {A B : List Int} (y0 : Rd m a 0 av) (y1 : Rd m a 1 bv) (ha : Ints m av A) (hb : Ints m bv B) (hn : A.length + B.length ≤ 1000) :
    ACall Try.prog 76 #[.slice (some ⟨a, 0, none⟩) 2 2] m (More (fun M v => Ints M v (A ++ B)) m) := by
  obtain ⟨F, F0, F1, F2⟩ : ∃ F : Nat → List Int, F 0 = [] ∧ F 1 = A ∧ F 2 = A ++ B := ⟨fun k => if k = 0 then [] else if k = 1 then A else A ++ B, rfl, rfl, rfl⟩
  have hrow : ∀ k, k < 2 → ∃ w X, Rd m a k w ∧ Ints m w X ∧ F (k + 1) = F k ++ X ∧ (F k).length + X.length ≤ (A ++ B).length := fun k hk => by
    rcases (show k = 0 ∨ k = 1 by omega) with rfl | rfl
    · exact ⟨av, A, y0, ha, by rw [F0, F1]; rfl, by rw [F0]; simp⟩
    · exact ⟨bv, B, y1, hb, by rw [F1, F2], by rw [F1]; simp⟩
  have hl2 : (F 2).length = (A ++ B).length := by rw [F2]
  have hln : (A ++ B).length ≤ 1000 := by simp; omega
  have hml : a < m.length := by obtain ⟨b, hb, _⟩ := y0; exact (List.getElem?_eq_some_iff.1 hb).1
  refine ACall.start Try.func76 rfl rfl ?_
  (repeat (first | (with_reducible refine AWo.cons ?_) | ((with_reducible refine Step.id ?_); first | ((with_reducible apply Step.move); exact rfl; exact rfl) | ((with_reducible apply Step.assign); exact rfl; exact rfl) | ((with_reducible apply Step.len); exact rfl; (focus (exact Sl.mk (by omega))); (focus (decide +kernel)); exact rfl)) | (with_reducible refine AWo.nil ?_) | ((with_reducible apply AW.seq)) | ((with_reducible apply Then.n)) | ((with_reducible apply AW.regL)) | ((with_reducible apply AW.block))))
  refine AW.loopT (fun rk t L => ∃ k : Nat, rk = 2 - k ∧ k ≤ 2 ∧ L = [] ∧ t = [(0, .slice (some ⟨a, 0, none⟩) 2 2), (3, .int .i64 ((F k).length : Nat)), (9, .slice (some ⟨a, 0, none⟩) 2 2), (10, .int .i64 2), (11, .int .i64 (k : Nat))])
    ⟨_, [(0, .slice (some ⟨a, 0, none⟩) 2 2), (3, .int .i64 0), (9, .slice (some ⟨a, 0, none⟩) 2 2), (10, .int .i64 2), (11, .int .i64 0)], _, (Or.inl ⟨rfl, (by repeat (first | exact trivial | (refine And.intro rfl ?_)))⟩), 0, rfl, Nat.zero_le _, rfl, by rw [F0]; rfl⟩ ?_
  rintro rk t L ⟨k, rfl, hk, rfl, rfl⟩
  rcases Nat.lt_or_ge k 2 with hlt | hge
  · obtain ⟨w, X, hr, hX, hF, hb2⟩ := hrow k hlt
    obtain ⟨xa, xo, x1, x2, x3⟩ := id hX
    (repeat (first | (with_reducible refine AWo.cons ?_) | ((with_reducible refine Step.id ?_); first | ((with_reducible apply Step.move); exact rfl; exact rfl) | ((with_reducible apply Step.assign); exact rfl; exact rfl) | ((with_reducible apply Step.load); exact rfl; (focus (decide +kernel)); exact rfl; (focus (exact hr.old _))) | ((with_reducible apply Step.ix1z); exact rfl; (focus (exact Sl.mk (by omega))); exact rfl; (focus (decide +kernel)); exact rfl; (focus (omega))) | ((with_reducible apply Step.add); exact rfl; exact rfl; (focus (omega)); exact rfl) | ((with_reducible apply Step.lss); exact rfl; exact rfl; exact rfl) | ((with_reducible apply Step.len); exact rfl; (focus (assumption)); (focus (decide +kernel)); exact rfl)) | (with_reducible refine AWo.nil ?_) | ((with_reducible apply AW.seq)) | ((with_reducible apply Then.n)) | ((with_reducible apply AW.regL)) | ((with_reducible apply AW.block)) | ((with_reducible apply InBlk.n)) | ((with_reducible apply AW.skip)) | ((with_reducible apply AW.condT); exact rfl; (focus ((simp only [decide_eq_true_eq, decide_eq_false_iff_not, Bool.not_eq_true', Bool.not_eq_false', Bool.not_true, Bool.not_false]; first | assumption | omega)))) | ((with_reducible apply AW.condF); exact rfl; (focus (rfl)))))

    refine ⟨_, [(0, .slice (some ⟨a, 0, none⟩) 2 2), (3, .int .i64 (((F k).length : Nat) + (X.length : Nat))), (9, .slice (some ⟨a, 0, none⟩) 2 2), (10, .int .i64 2), (11, .int .i64 ((k + 1 : Nat) : Int))], _, by omega, (Or.inl ⟨rfl, (by repeat (first | exact trivial | (refine And.intro rfl ?_)))⟩), k + 1, rfl, by omega, rfl, ?_⟩
    have e5 : (((F (k + 1)).length : Nat) : Int) = ((F k).length : Nat) + (X.length : Nat) := by rw [hF, List.length_append]; omega
    rw [e5]
  have hk2 : k = 2 := by omega
  subst k
  rw [hl2]
  obtain ⟨n, hnn⟩ : ∃ n, (A ++ B).length = n := ⟨_, rfl⟩
  rw [hnn] at hl2 hln ⊢
  by_cases h0 : n = 0
  · subst h0
    have hAB : A ++ B = [] := List.eq_nil_of_length_eq_zero hnn
    (repeat (first | (with_reducible refine AWo.cons ?_) | ((with_reducible refine Step.id ?_); first | ((with_reducible apply Step.move); exact rfl; exact rfl) | ((with_reducible apply Step.lss); exact rfl; exact rfl; exact rfl)) | (with_reducible refine AWo.nil ?_) | ((with_reducible apply AW.seq)) | ((with_reducible apply Then.n)) | ((with_reducible apply AW.regL)) | ((with_reducible apply AW.exit)) | ((with_reducible apply InBlk.hit)) | ((with_reducible apply Then.e)) | ((with_reducible apply AW.condF); exact rfl; (focus (rfl)))))
    ((with_reducible apply Step.callX fit); exact rfl; exact Try.func98; exact rfl; exact rfl; exact ((show ACall Try.prog 98 #[.slice none 0 0, .int .i64 ((0 : Nat) : Int)] (m ++ []) (More (fun M v => v = .slice none 0 0) (m ++ [])) from (grow0_ok (m := m ++ [])).mono fun v M ⟨h1, h2⟩ => ⟨[], by rw [h2, List.append_nil], h1.symm⟩)))
    rintro v M' ⟨N, rfl⟩ rfl
    rw [List.append_nil, List.append_nil]
    (repeat (first | (with_reducible refine AWo.cons ?_) | ((with_reducible refine Step.id ?_); first | ((with_reducible apply Step.move); exact rfl; exact rfl) | ((with_reducible apply Step.assign); exact rfl; exact rfl) | ((with_reducible apply Step.len); exact rfl; (focus (exact Sl.mk (by omega))); (focus (decide +kernel)); exact rfl)) | (with_reducible refine AWo.nil ?_) | ((with_reducible apply AW.seq)) | ((with_reducible apply Then.n)) | ((with_reducible apply AW.regL)) | ((with_reducible apply AW.block))))
    refine AW.loopT (fun rk t L => ∃ k : Nat, rk = 2 - k ∧ k ≤ 2 ∧ L = [] ∧ t = [(6, .slice none 0 0), (25, .slice (some ⟨a, 0, none⟩) 2 2), (26, .int .i64 2), (27, .int .i64 (k : Nat))])
      ⟨_, _, _, (Back.trim rfl rfl (by repeat (exact CellsOk.nil)) (by repeat (first | exact trivial | (refine And.intro ⟨rfl, by (first | exact .int _ _ | exact Ren.of_g0 rfl | exact .slice _ _ _ _ (by first | (simp; done) | omega | (simp; omega)))⟩ ?_)))), 0, rfl, Nat.zero_le _, rfl, rfl⟩ ?_
    rintro rk t L ⟨k, rfl, hk, rfl, rfl⟩
    rcases Nat.lt_or_ge k 2 with hlt | hge
    · obtain ⟨w, X, hr, hX, hF, hb2⟩ := hrow k hlt
      have hX0 : X = [] := List.eq_nil_of_length_eq_zero (by omega)
      subst hX0
      (repeat (first | (with_reducible refine AWo.cons ?_) | ((with_reducible refine Step.id ?_); first | ((with_reducible apply Step.move); exact rfl; exact rfl) | ((with_reducible apply Step.assign); exact rfl; exact rfl) | ((with_reducible apply Step.load); exact rfl; (focus (decide +kernel)); exact rfl; (focus (exact hr.old _))) | ((with_reducible apply Step.ix1z); exact rfl; (focus (exact Sl.mk (by omega))); exact rfl; (focus (decide +kernel)); exact rfl; (focus (omega))) | ((with_reducible apply Step.lss); exact rfl; exact rfl; exact rfl)) | (with_reducible refine AWo.nil ?_) | ((with_reducible apply AW.seq)) | ((with_reducible apply Then.n)) | ((with_reducible apply AW.regL)) | ((with_reducible apply AW.block)) | ((with_reducible apply AW.skip)) | ((with_reducible apply AW.condT); exact rfl; (focus ((simp only [decide_eq_true_eq, decide_eq_false_iff_not, Bool.not_eq_true', Bool.not_eq_false', Bool.not_true, Bool.not_false]; first | assumption | omega))))))
      ((with_reducible apply Step.app00); exact rfl; exact rfl; exact rfl; exact (hX.old _); exact el27; exact un27; exact rfl; exact rfl; (focus (first | (simp only [List.nil_append, List.cons_append, List.set_cons_zero, List.set_cons_succ, iv_set, bv_set, iv_rep, bv_rep]; done) | (simp only [List.nil_append, List.cons_append, List.set_cons_zero, List.set_cons_succ, iv_set, bv_set, iv_rep, bv_rep]; rfl) | rfl)))
      (repeat (first | (with_reducible refine AWo.cons ?_) | ((with_reducible refine Step.id ?_); first | ((with_reducible apply Step.move); exact rfl; exact rfl) | ((with_reducible apply Step.assign); exact rfl; exact rfl) | ((with_reducible apply Step.add); exact rfl; exact rfl; (focus (omega)); exact rfl)) | (with_reducible refine AWo.nil ?_) | ((with_reducible apply Then.n)) | ((with_reducible apply AW.regL)) | ((with_reducible apply InBlk.n))))
      exact ⟨_, _, _, by omega, (Back.trim rfl rfl (by repeat (exact CellsOk.nil)) (by repeat (first | exact trivial | (refine And.intro ⟨rfl, by (first | exact .int _ _ | exact Ren.of_g0 rfl | exact .slice _ _ _ _ (by first | (simp; done) | omega | (simp; omega)))⟩ ?_)))), k + 1, rfl, by omega, rfl, rfl⟩
    · (repeat (first | (with_reducible refine AWo.cons ?_) | ((with_reducible refine Step.id ?_); first | ((with_reducible apply Step.move); exact rfl; exact rfl) | ((with_reducible apply Step.assign); exact rfl; exact rfl) | ((with_reducible apply Step.lss); exact rfl; exact rfl; exact rfl)) | (with_reducible refine AWo.nil ?_) | ((with_reducible apply AW.seq)) | ((with_reducible apply Then.n)) | ((with_reducible apply AW.regL)) | ((with_reducible apply AW.exit)) | ((with_reducible apply InBlk.hit)) | ((with_reducible apply Then.e)) | ((with_reducible apply AW.condF); exact rfl; (focus ((simp only [decide_eq_true_eq, decide_eq_false_iff_not, Bool.not_eq_true', Bool.not_eq_false', Bool.not_true, Bool.not_false]; first | assumption | omega))))))
      (refine AW.ret ?_; (repeat (first | refine Then.r ?_ | refine InBlk.r ?_)))
      exact ⟨_, rfl, _, rfl, by rw [hAB]; exact ⟨a, 0, Sl.nil _ _, by simp; omega, fun k hk => by simp at hk⟩⟩
  · (repeat (first | (with_reducible refine AWo.cons ?_) | ((with_reducible refine Step.id ?_); first | ((with_reducible apply Step.move); exact rfl; exact rfl) | ((with_reducible apply Step.lss); exact rfl; exact rfl; exact rfl)) | (with_reducible refine AWo.nil ?_) | ((with_reducible apply AW.seq)) | ((with_reducible apply Then.n)) | ((with_reducible apply AW.regL)) | ((with_reducible apply AW.exit)) | ((with_reducible apply InBlk.hit)) | ((with_reducible apply Then.e)) | ((with_reducible apply AW.condF); exact rfl; (focus (rfl)))))
    ((with_reducible apply Step.callX fit); exact rfl; exact Try.func98; exact rfl; exact rfl; exact (grow_ok (m := m ++ []) (show 0 < n by omega) hln))
    rintro v M' _ ⟨rfl, rfl⟩
    rw [List.append_nil, List.append_nil]
    (repeat (first | (with_reducible refine AWo.cons ?_) | ((with_reducible refine Step.id ?_); first | ((with_reducible apply Step.move); exact rfl; exact rfl) | ((with_reducible apply Step.assign); exact rfl; exact rfl) | ((with_reducible apply Step.len); exact rfl; (focus (exact Sl.mk (by omega))); (focus (decide +kernel)); exact rfl)) | (with_reducible refine AWo.nil ?_) | ((with_reducible apply AW.seq)) | ((with_reducible apply Then.n)) | ((with_reducible apply AW.regL)) | ((with_reducible apply AW.block))))
    refine AW.loopT (fun rk t L => ∃ k : Nat, rk = 2 - k ∧ k ≤ 2 ∧ L = [some { cells := iv (F k) ++ iv (List.replicate (n - (F k).length) 0), kind := .grow, size := 1 }] ∧ t = [(6, .slice (some ⟨m.length + 0, 0, none⟩) (F k).length n), (25, .slice (some ⟨a, 0, none⟩) 2 2), (26, .int .i64 2), (27, .int .i64 (k : Nat))])
      ⟨_, [(6, .slice (some ⟨m.length + 0, 0, none⟩) 0 n), (25, .slice (some ⟨a, 0, none⟩) 2 2), (26, .int .i64 2), (27, .int .i64 0)], [some { cells := List.replicate n (.int .i64 0), kind := .grow, size := 1 }], (Or.inl ⟨rfl, (by repeat (first | exact trivial | (refine And.intro rfl ?_)))⟩), 0, rfl, Nat.zero_le _, by rw [F0]; simp [iv], by rw [F0]; rfl⟩ ?_
    rintro rk t L ⟨k, rfl, hk, rfl, rfl⟩
    rcases Nat.lt_or_ge k 2 with hlt | hge
    · obtain ⟨w, X, hr, hX, hF, hb2⟩ := hrow k hlt
      have e2 : (F k).length + X.length = (F (k + 1)).length := by rw [hF, List.length_append]
      have e1 : iv (F k) ++ (iv X ++ iv (List.replicate (n - (F (k + 1)).length) 0)) = iv (F (k + 1)) ++ iv (List.replicate (n - (F (k + 1)).length) 0) := by rw [hF]; simp [iv]
      have e3 : iv (F k) ++ iv (List.replicate (n - (F k).length) 0) = iv (F k) ++ (iv (List.replicate X.length 0) ++ iv (List.replicate (n - (F (k + 1)).length) 0)) := by
        have : List.replicate (n - (F k).length) (0 : Int) = List.replicate X.length 0 ++ List.replicate (n - (F (k + 1)).length) 0 := by
          rw [List.replicate_append_replicate, show X.length + (n - (F (k + 1)).length) = n - (F k).length by omega]
        rw [this]; simp [iv]
      have g0f : ∀ v ∈ iv (F (k + 1)) ++ iv (List.replicate (n - (F (k + 1)).length) 0), g0 v = true := fun v hv => (List.mem_append.1 hv).elim (g0_iv _ v) (g0_iv _ v)
      (repeat (first | (with_reducible refine AWo.cons ?_) | ((with_reducible refine Step.id ?_); first | ((with_reducible apply Step.move); exact rfl; exact rfl) | ((with_reducible apply Step.assign); exact rfl; exact rfl) | ((with_reducible apply Step.load); exact rfl; (focus (decide +kernel)); exact rfl; (focus (exact hr.old _))) | ((with_reducible apply Step.ix1z); exact rfl; (focus (exact Sl.mk (by omega))); exact rfl; (focus (decide +kernel)); exact rfl; (focus (omega))) | ((with_reducible apply Step.lss); exact rfl; exact rfl; exact rfl)) | (with_reducible refine AWo.nil ?_) | ((with_reducible apply AW.seq)) | ((with_reducible apply Then.n)) | ((with_reducible apply AW.regL)) | ((with_reducible apply AW.block)) | ((with_reducible apply AW.skip)) | ((with_reducible apply AW.condT); exact rfl; (focus ((simp only [decide_eq_true_eq, decide_eq_false_iff_not, Bool.not_eq_true', Bool.not_eq_false', Bool.not_true, Bool.not_false]; first | assumption | omega))))))
      ((with_reducible apply Step.appW (q := 0) (c := iv (F k)) (old := iv (List.replicate X.length 0)) (Z := iv (List.replicate (n - (F (k + 1)).length) 0))); exact rfl; exact rfl; exact rfl; exact (hX.old _); exact el27; exact un27; exact rfl; exact rfl; exact e3; (focus (simp [iv])); (focus (simp [iv])); (focus (omega)); exact rfl; (focus (first | (simp only [List.nil_append, List.cons_append, List.set_cons_zero, List.set_cons_succ, iv_set, bv_set, iv_rep, bv_rep]; done) | (simp only [List.nil_append, List.cons_append, List.set_cons_zero, List.set_cons_succ, iv_set, bv_set, iv_rep, bv_rep]; rfl) | rfl)))
      rw [e1, e2]
      (repeat (first | (with_reducible refine AWo.cons ?_) | ((with_reducible refine Step.id ?_); first | ((with_reducible apply Step.move); exact rfl; exact rfl) | ((with_reducible apply Step.assign); exact rfl; exact rfl) | ((with_reducible apply Step.add); exact rfl; exact rfl; (focus (omega)); exact rfl)) | (with_reducible refine AWo.nil ?_) | ((with_reducible apply Then.n)) | ((with_reducible apply AW.regL)) | ((with_reducible apply InBlk.n))))
      exact ⟨_, _, _, by omega, (Back.trim rfl rfl (by repeat (first | exact CellsOk.nil | refine CellsOk.cons (by assumption) ?_)) (by repeat (first | exact trivial | (refine And.intro ⟨rfl, by (first | exact .int _ _ | exact .slice _ _ _ _ (by first | (simp; done) | omega | (simp; omega)))⟩ ?_)))), k + 1, rfl, by omega, rfl, rfl⟩
    · have hk2 : k = 2 := by omega
      subst k
      rw [hl2]
      (repeat (first | (with_reducible refine AWo.cons ?_) | ((with_reducible refine Step.id ?_); first | ((with_reducible apply Step.move); exact rfl; exact rfl) | ((with_reducible apply Step.assign); exact rfl; exact rfl) | ((with_reducible apply Step.lss); exact rfl; exact rfl; exact rfl)) | (with_reducible refine AWo.nil ?_) | ((with_reducible apply AW.seq)) | ((with_reducible apply Then.n)) | ((with_reducible apply AW.regL)) | ((with_reducible apply AW.exit)) | ((with_reducible apply InBlk.hit)) | ((with_reducible apply Then.e)) | ((with_reducible apply AW.condF); exact rfl; (focus (rfl)))))
      (refine AW.ret ?_; (repeat (first | refine Then.r ?_ | refine InBlk.r ?_)))
      exact ⟨_, rfl, _, rfl, ints_new (k := 0) rfl (by rw [Nat.sub_self, F2]; simp [iv]) n hnn.symm⟩
end Go.Proofs.Ytajpngnphbdnnaa.Abs
namespace Go.Proofs.Ytajpngnphbdnnaa.Abs
set_option linter.unusedSimpArgs false
set_option linter.unusedVariables false
open Go.RowKit
open Go.Proofs.Ytajpngnphbdnnaa.Sim
open Go.Proofs
theorem bs80b {m : AM} {k n c n' c' : Nat} {q q' : Option Addr} : abuildSlice Try.prog m k 80 2 [(0, .slice q n c), (1, .slice q' n' c')] = some (.slice (some ⟨k, 0, none⟩) 2 2, m.set k (some { cells := [.slice q n c, .slice q' n' c'] })) := by kernel_rfl
def prOk (M : List Int) : Prop := ∀ x ∈ M, 0 ≤ x ∧ x ≤ 1000000000
def coOk (c : Nat → Nat → Int) (l r : Nat) (A B : List Int) : Prop := ∀ i, i < l → ∀ j, j < r → 0 ≤ c i j → 1000000000 - c i j ≤ A.getD i 0 + B.getD j 0
open Classical in
/-- What Worth answers, the gloves and the rule being right. -/
noncomputable def wrt (c : Nat → Nat → Int) (l r : Nat) (A B : List Int) : Int × Bool × Int :=
  if A.length = l ∧ B.length = r then if prOk (A ++ B) then if coOk c l r A B then ((A ++ B).sum, true, 0) else (0, false, 0) else (0, false, 2) else (0, false, 3)
theorem sum_bd9 : ∀ {X : List Int}, (∀ x ∈ X, 0 ≤ x ∧ x ≤ 1000000000) → 0 ≤ X.sum ∧ X.sum ≤ 1000000000 * (X.length : Int)
  | [], _ => by simp
  | x :: X, h => by
    have h1 := h x (by simp)
    have h2 := sum_bd9 (X := X) fun y hy => h y (by simp [hy])
    rw [List.sum_cons, List.length_cons, Int.natCast_add]
    omega
theorem ren_tup3 {ρ : Nat → Nat} {n : Nat} (s : Int) (q : Bool) (e : Int) : Ren ρ n (.tuple #[.int .i64 s, .bool q, .int .i64 e]) (.tuple #[.int .i64 s, .bool q, .int .i64 e]) := .tuple _ _ rfl fun i hi => by
  have : i = 0 ∨ i = 1 ∨ i = 2 := by simp at hi; omega
  rcases this with rfl | rfl | rfl <;> exact Ren.of_g0 rfl
theorem sl_form {v : Value} {a o n : Nat} (h : Sl v a o n) : ∃ q n c, v = .slice q n c := by
  rcases h with ⟨rfl, _⟩ | ⟨c, _, rfl⟩ | ⟨_, o', k, rfl⟩ <;> exact ⟨_, _, _, rfl⟩
set_option maxHeartbeats 8000000 in
set_option maxRecDepth 100000 in
theorem Worth_ok {m : AM} {lv rv av bv : Value} {L R : List Gl} {u : Ru} {A B : List Int} (hl : Gls m lv L) (hr : Gls m rv R) (hL : sB L = true) (hR : sB R = true) (hu : uB u = true) (ha : Ints m av A) (hb : Ints m bv B) (hAl : A.length ≤ 9223372036854775807) (hBl : B.length ≤ 9223372036854775807)
    {s e : Int} {q : Bool} (hw : wrt (cT u L R) L.length R.length A B = (s, q, e)) : ACall Try.prog 37 #[lv, rv, u.v, av, bv] m (Ret (.tuple #[.int .i64 s, .bool q, .int .i64 e]) m) := by
  have h1 : L.length ≤ 32 ∧ L.all gB = true := by simpa [sB] using hL
  have h2 : R.length ≤ 32 ∧ R.all gB = true := by simpa [sB] using hR
  have r0 : ∀ T : AM, RdL (m ++ (some { cells := u.cells } :: T)) (m.length + 0) 0 u.cells := fun T => RdL.new rfl rfl
  have hcs := cT_cs hu hL hR
  refine ACall.drop (ren_tup3 _ _ _) ?_
  refine ACall.start Try.func37 rfl rfl ?_
  (repeat (first | (with_reducible refine AWo.cons ?_) | ((with_reducible refine Step.id ?_); first | ((with_reducible apply Step.move); exact rfl; exact rfl) | ((with_reducible apply Step.assign); exact rfl; exact rfl) | ((with_reducible apply Step.loadL (n := 8)); exact rfl; (focus (decide +kernel)); (focus (decide +kernel)); exact rfl; (focus (exact RdL.new rfl rfl)); exact rfl; exact rfl) | ((with_reducible apply Step.box 0); exact rfl; exact rfl; (focus (kernel_rfl)); exact rfl; (focus (first | (simp only [List.nil_append, List.cons_append, List.set_cons_zero, List.set_cons_succ, iv_set, bv_set, iv_rep, bv_rep]; done) | (simp only [List.nil_append, List.cons_append, List.set_cons_zero, List.set_cons_succ, iv_set, bv_set, iv_rep, bv_rep]; rfl) | rfl)))) | (with_reducible refine AWo.nil ?_) | ((with_reducible apply AW.seq)) | ((with_reducible apply Then.n)) | ((with_reducible apply AW.regL))))
  ((with_reducible apply Step.callX fit); exact rfl; exact Try.func54; exact rfl; exact rfl; exact (costs_ok (hl.old _) (hr.old _) hL hR hu))
  rintro tv M ⟨N0, hN0⟩ hT
  have hMN : ∃ N, M = m ++ N := ⟨_, by rw [hN0, List.append_assoc]⟩
  clear r0 hN0
  generalize cT u L R = c at *
  generalize hl' : L.length = l at *
  generalize hr' : R.length = r at *
  obtain ⟨ta, cv, b, o, rfl, t1, t2, t3, t4, t5, t6, t7⟩ := id hT
  rw [List.append_nil]
  have ia : Ints M av A := by obtain ⟨N, rfl⟩ := hMN; exact ha.old N
  have ib : Ints M bv B := by obtain ⟨N, rfl⟩ := hMN; exact hb.old N
  obtain ⟨aa, ao, a1, a2, a3⟩ := id ia
  obtain ⟨ba, bo, b1, b2, b3⟩ := id ib
  unfold wrt at hw
  by_cases hla : A.length = l
  · by_cases hlb : B.length = r
    · rw [if_pos ⟨hla, hlb⟩] at hw
      obtain ⟨qa, na, ca, rfl⟩ := sl_form a1
      obtain ⟨qb, nb, cb, rfl⟩ := sl_form b1
      (repeat (first | (with_reducible refine AWo.cons ?_) | ((with_reducible refine Step.id ?_); ((with_reducible apply Step.assign); exact rfl; exact rfl)) | (with_reducible refine AWo.nil ?_) | ((fail_if_success (with_reducible refine AW.atR (id := 2) ?_)); ((with_reducible apply AW.seq))) | ((with_reducible apply Then.n)) | ((with_reducible apply AW.block))))
      refine AW.rebase ?_
      (repeat (first | (with_reducible refine AWo.cons ?_) | ((with_reducible refine Step.id ?_); first | ((with_reducible apply Step.gdT); exact rfl; exact rfl; (focus ((simp only [decide_eq_true_eq, decide_eq_false_iff_not, Bool.not_eq_true', Bool.not_eq_false', Bool.not_true, Bool.not_false]; first | assumption | omega)))) | ((with_reducible apply Step.move); exact rfl; exact rfl) | ((with_reducible apply Step.assign); exact rfl; exact rfl) | ((with_reducible apply Step.load); exact rfl; (focus (decide +kernel)); exact rfl; (focus (first | exact t3.old _ | exact t4.old _))) | ((with_reducible apply Step.field (k := 1)); exact rfl; (focus (decide +kernel)); exact rfl) | ((with_reducible apply Step.field (k := 2)); exact rfl; (focus (decide +kernel)); exact rfl) | ((with_reducible apply Step.ptrNot); exact rfl; exact rfl; exact un77; exact rfl) | ((with_reducible apply Step.neq); exact rfl; exact rfl; exact rfl) | ((with_reducible apply Step.len); exact rfl; (focus (assumption)); (focus (decide +kernel)); exact rfl) | ((with_reducible apply Step.nilp); exact rfl; exact rfl) | ((with_reducible apply Step.pickF); exact rfl; exact rfl; exact rfl; exact rfl; (focus ((simp only [decide_eq_true_eq, decide_eq_false_iff_not, Bool.not_eq_true', Bool.not_eq_false', Bool.not_true, Bool.not_false]; first | assumption | omega)))) | ((with_reducible apply Step.buildS 0); exact rfl; exact rfl; exact (fun _ _ => bs80b); exact rfl; (focus (first | (simp only [List.nil_append, List.cons_append, List.set_cons_zero, List.set_cons_succ, iv_set, bv_set, iv_rep, bv_rep]; done) | (simp only [List.nil_append, List.cons_append, List.set_cons_zero, List.set_cons_succ, iv_set, bv_set, iv_rep, bv_rep]; rfl) | rfl)))) | (with_reducible refine AWo.nil ?_) | ((with_reducible apply AW.seq)) | ((with_reducible apply Then.n)) | ((with_reducible apply AW.regL)) | ((with_reducible apply InBlk.n)) | ((with_reducible apply AW.skip)) | ((with_reducible apply AW.condF); exact rfl; (focus (first | rfl | (simp only [decide_eq_true_eq, decide_eq_false_iff_not, Bool.not_eq_true', Bool.not_eq_false', Bool.not_true, Bool.not_false]; first | assumption | omega))))))
      ((with_reducible apply Step.callX fit); exact rfl; exact Try.func76; exact rfl; exact rfl; exact (concat_ok (Rd.new rfl rfl) (Rd.new rfl rfl) (ia.old _) (ib.old _) (by omega)))
      rintro v M2 ⟨N2, hN2⟩ hI
      have hMM : ∃ N, M2 = M ++ N := ⟨_, by rw [hN2, List.append_assoc]⟩
      clear hN2
      rw [List.append_nil]
      obtain ⟨N3, hN3⟩ := hMM
      have hmN : ∃ N, M2 = m ++ N := by
        obtain ⟨N, rfl⟩ := hMN
        exact ⟨N ++ N3, by rw [hN3, List.append_assoc]⟩
      have ia2 : Ints M2 (.slice qa na ca) A := by rw [hN3]; exact ia.old N3
      have ib2 : Ints M2 (.slice qb nb cb) B := by rw [hN3]; exact ib.old N3
      have u2 : Rd M2 ta 0 cv := by rw [hN3]; exact t2.old N3
      have u6 : b < M2.length := by rw [hN3]; simp; omega
      have u7 : ∀ i, i < l → ∃ w, Rd M2 b (o + i) w ∧ Ints M2 w (tab (c i) r) := fun i hi => by
        obtain ⟨w, k1, k2⟩ := t7 i hi
        rw [hN3]
        exact ⟨w, k1.old N3, k2.old N3⟩
      clear ia ib t1 t2 t3 t4 t6 t7 a1 a2 a3 b1 b2 b3 hMN hT hN3
      obtain ⟨aa, ao, a1, a2, a3⟩ := id ia2
      obtain ⟨ba, bo, b1, b2, b3⟩ := id ib2
      obtain ⟨W, hW⟩ : ∃ W, A ++ B = W := ⟨_, rfl⟩
      have hWl : W.length ≤ 64 := by rw [← hW]; simp; omega
      rw [hW] at hI hw
      obtain ⟨va, vo, v1, v2, v3⟩ := id hI
      (repeat (first | (with_reducible refine AWo.cons ?_) | ((with_reducible refine Step.id ?_); first | ((with_reducible apply Step.move); exact rfl; exact rfl) | ((with_reducible apply Step.len); exact rfl; (focus (assumption)); (focus (decide +kernel)); exact rfl)) | (with_reducible refine AWo.nil ?_) | ((with_reducible apply Then.n)) | ((with_reducible apply AW.block))))
      refine AW.rebase ?_
      refine AW.loopT (fun rk t L' => ∃ k : Nat, rk = W.length - k ∧ k ≤ W.length ∧ (∀ x ∈ W.take k, 0 ≤ x ∧ x ≤ 1000000000) ∧ L' = [] ∧ t = [(3, .slice qa na ca), (4, .slice qb nb cb), (13, .pointer (some ⟨ta, 0, none⟩)), (14, .int .i64 (W.take k).sum), (48, v), (49, .int .i64 (W.length : Nat)), (50, .int .i64 (k : Nat))])
        ⟨_, _, _, (Or.inl ⟨rfl, (by repeat (first | exact trivial | (refine And.intro rfl ?_)))⟩), 0, rfl, Nat.zero_le _, fun x hx => by simp at hx, rfl, rfl⟩ ?_
      rintro rk t L' ⟨k, rfl, hk, hp, rfl, rfl⟩
      have hsb := sum_bd9 hp
      have htl : ((W.take k).length : Int) ≤ 64 := by rw [List.length_take]; omega
      rcases Nat.lt_or_ge k W.length with hlt | hge
      · have rv := v3 k hlt
        have hts := take_snoc W k 0 hlt
        have hmem : W.getD k 0 ∈ W := by
          have : W.getD k 0 = W[k] := by simp [hlt]
          rw [this]; exact List.getElem_mem hlt
        generalize W.getD k 0 = x at *
        by_cases hx : 0 ≤ x ∧ x ≤ 1000000000
        · obtain ⟨hx0, hx1⟩ := hx
          (repeat (first | (with_reducible refine AWo.cons ?_) | ((with_reducible refine Step.id ?_); first | ((with_reducible apply Step.gdT); exact rfl; exact rfl; (focus ((simp only [decide_eq_true_eq, decide_eq_false_iff_not, Bool.not_eq_true', Bool.not_eq_false', Bool.not_true, Bool.not_false]; first | assumption | omega)))) | ((with_reducible apply Step.move); exact rfl; exact rfl) | ((with_reducible apply Step.assign); exact rfl; exact rfl) | ((with_reducible apply Step.load); exact rfl; (focus (decide +kernel)); exact rfl; (focus (exact rv.old _))) | ((with_reducible apply Step.ix1); exact rfl; (focus (assumption)); exact rfl; (focus (decide +kernel)); exact rfl; (focus (omega))) | ((with_reducible apply Step.add); exact rfl; exact rfl; (focus (omega)); exact rfl) | ((with_reducible apply Step.lss); exact rfl; exact rfl; exact rfl) | ((with_reducible apply Step.gtr); exact rfl; exact rfl; exact rfl) | ((with_reducible apply Step.pickF); exact rfl; exact rfl; exact rfl; exact rfl; (focus ((simp only [decide_eq_true_eq, decide_eq_false_iff_not, Bool.not_eq_true', Bool.not_eq_false', Bool.not_true, Bool.not_false]; first | assumption | omega))))) | (with_reducible refine AWo.nil ?_) | ((with_reducible apply AW.seq)) | ((with_reducible apply Then.n)) | ((with_reducible apply AW.regL)) | ((with_reducible apply AW.block)) | ((with_reducible apply InBlk.n)) | ((with_reducible apply AW.skip)) | ((with_reducible apply AW.condT); exact rfl; (focus ((simp only [decide_eq_true_eq, decide_eq_false_iff_not, Bool.not_eq_true', Bool.not_eq_false', Bool.not_true, Bool.not_false]; first | assumption | omega)))) | ((with_reducible apply AW.condF); exact rfl; (focus ((simp only [decide_eq_true_eq, decide_eq_false_iff_not, Bool.not_eq_true', Bool.not_eq_false', Bool.not_true, Bool.not_false]; first | assumption | omega))))))
          have hsum : (W.take (k + 1)).sum = (W.take k).sum + x := by rw [hts]; simp
          refine ⟨_, [(3, .slice qa na ca), (4, .slice qb nb cb), (13, .pointer (some ⟨ta, 0, none⟩)), (14, .int .i64 ((W.take k).sum + x)), (48, v), (49, .int .i64 (W.length : Nat)), (50, .int .i64 ((k + 1 : Nat) : Int))], _, by omega, (Or.inl ⟨rfl, (by repeat (first | exact trivial | (refine And.intro rfl ?_)))⟩), k + 1, rfl, by omega, fun y hy => ?_, rfl, by rw [hsum]⟩
          rw [hts] at hy
          rcases List.mem_append.1 hy with hy | hy
          · exact hp y hy
          · rw [List.mem_singleton.1 hy]; exact ⟨hx0, hx1⟩
        · rw [if_neg (fun h => hx (h x hmem))] at hw
          injection hw with e1 e2
          injection e2 with e2 e3
          subst e1 e2 e3
          by_cases hx0 : x < 0
          · (repeat (first | (with_reducible refine AWo.cons ?_) | ((with_reducible refine Step.id ?_); first | ((with_reducible apply Step.gdF); exact rfl; exact rfl; (focus ((simp only [decide_eq_true_eq, decide_eq_false_iff_not, Bool.not_eq_true', Bool.not_eq_false', Bool.not_true, Bool.not_false]; first | assumption | omega)))) | ((with_reducible apply Step.move); exact rfl; exact rfl) | ((with_reducible apply Step.assign); exact rfl; exact rfl) | ((with_reducible apply Step.load); exact rfl; (focus (decide +kernel)); exact rfl; (focus (exact rv.old _))) | ((with_reducible apply Step.ix1); exact rfl; (focus (assumption)); exact rfl; (focus (decide +kernel)); exact rfl; (focus (omega))) | ((with_reducible apply Step.lss); exact rfl; exact rfl; exact rfl) | ((with_reducible apply Step.pickT); exact rfl; exact rfl; exact rfl; exact rfl; (focus ((simp only [decide_eq_true_eq, decide_eq_false_iff_not, Bool.not_eq_true', Bool.not_eq_false', Bool.not_true, Bool.not_false]; first | assumption | omega))))) | (with_reducible refine AWo.nil ?_) | ((with_reducible apply AW.seq)) | ((with_reducible apply Then.n)) | ((with_reducible apply AW.regL)) | ((with_reducible apply AW.block)) | ((with_reducible apply AW.skip)) | ((with_reducible apply AW.condT); exact rfl; (focus (first | rfl | (simp only [decide_eq_true_eq, decide_eq_false_iff_not, Bool.not_eq_true', Bool.not_eq_false', Bool.not_true, Bool.not_false]; first | assumption | omega))))))
            (refine AW.ret ?_; (repeat (first | refine Then.r ?_ | refine InBlk.r ?_)))
            obtain ⟨N, rfl⟩ := hmN
            exact ⟨_, rfl, rfl, N, by rw [List.append_nil]⟩
          · have hx1 : 1000000000 < x := by omega
            (repeat (first | (with_reducible refine AWo.cons ?_) | ((with_reducible refine Step.id ?_); first | ((with_reducible apply Step.gdT); exact rfl; exact rfl; (focus ((simp only [decide_eq_true_eq, decide_eq_false_iff_not, Bool.not_eq_true', Bool.not_eq_false', Bool.not_true, Bool.not_false]; first | assumption | omega)))) | ((with_reducible apply Step.move); exact rfl; exact rfl) | ((with_reducible apply Step.assign); exact rfl; exact rfl) | ((with_reducible apply Step.load); exact rfl; (focus (decide +kernel)); exact rfl; (focus (exact rv.old _))) | ((with_reducible apply Step.ix1); exact rfl; (focus (assumption)); exact rfl; (focus (decide +kernel)); exact rfl; (focus (omega))) | ((with_reducible apply Step.lss); exact rfl; exact rfl; exact rfl) | ((with_reducible apply Step.gtr); exact rfl; exact rfl; exact rfl) | ((with_reducible apply Step.pickF); exact rfl; exact rfl; exact rfl; exact rfl; (focus ((simp only [decide_eq_true_eq, decide_eq_false_iff_not, Bool.not_eq_true', Bool.not_eq_false', Bool.not_true, Bool.not_false]; first | assumption | omega))))) | (with_reducible refine AWo.nil ?_) | ((with_reducible apply AW.seq)) | ((with_reducible apply Then.n)) | ((with_reducible apply AW.regL)) | ((with_reducible apply AW.block)) | ((with_reducible apply AW.skip)) | ((with_reducible apply AW.condT); exact rfl; (focus ((simp only [decide_eq_true_eq, decide_eq_false_iff_not, Bool.not_eq_true', Bool.not_eq_false', Bool.not_true, Bool.not_false]; first | assumption | omega))))))
            (refine AW.ret ?_; (repeat (first | refine Then.r ?_ | refine InBlk.r ?_)))
            obtain ⟨N, rfl⟩ := hmN
            exact ⟨_, rfl, rfl, N, by rw [List.append_nil]⟩
      have hkW : k = W.length := by omega
      subst k
      rw [List.take_of_length_le (Nat.le_refl _)] at hp hsb ⊢
      rw [if_pos (show prOk W from hp)] at hw
      (repeat (first | (with_reducible refine AWo.cons ?_) | ((with_reducible refine Step.id ?_); first | ((with_reducible apply Step.move); exact rfl; exact rfl) | ((with_reducible apply Step.load); exact rfl; (focus (decide +kernel)); exact rfl; (focus (exact u2.old _))) | ((with_reducible apply Step.field0); exact rfl; (focus (decide +kernel)); exact rfl) | ((with_reducible apply Step.lss); exact rfl; exact rfl; exact rfl) | ((with_reducible apply Step.len); exact rfl; (focus (assumption)); (focus (decide +kernel)); exact rfl) | ((with_reducible apply Step.nilp); exact rfl; exact rfl)) | (with_reducible refine AWo.nil ?_) | ((with_reducible apply AW.seq)) | ((with_reducible apply Then.n)) | ((with_reducible apply AW.regL)) | ((with_reducible apply AW.block)) | ((with_reducible apply AW.exit)) | ((with_reducible apply InBlk.hit)) | ((with_reducible apply Then.e)) | ((with_reducible apply AW.condF); exact rfl; (focus ((simp only [decide_eq_true_eq, decide_eq_false_iff_not, Bool.not_eq_true', Bool.not_eq_false', Bool.not_true, Bool.not_false]; first | assumption | omega))))))
      rw [List.append_nil]
      refine AW.rebase ?_
      refine AW.loopT (fun rk t L' => ∃ i : Nat, rk = l - i ∧ i ≤ l ∧ (∀ i', i' < i → ∀ j, j < r → 0 ≤ c i' j → 1000000000 - c i' j ≤ A.getD i' 0 + B.getD j 0) ∧ L' = [] ∧ t = [(3, .slice qa na ca), (4, .slice qb nb cb), (14, .int .i64 W.sum), (67, cv), (68, .int .i64 (l : Nat)), (69, .int .i64 (i : Nat))])
        ⟨_, _, _, (Or.inl ⟨rfl, (by repeat (first | exact trivial | (refine And.intro rfl ?_)))⟩), 0, rfl, Nat.zero_le _, fun _ h => by omega, rfl, rfl⟩ ?_
      rintro rk t L' ⟨i, rfl, hi, hq, rfl, rfl⟩
      rcases Nat.lt_or_ge i l with hil | hig
      · obtain ⟨w, w1, wa, wo', w2, w3, w4⟩ := u7 i hil
        rw [tab_len] at w2 w4
        have ra := a3 i (by omega)
        have hpa := hp (A.getD i 0) (by rw [← hW]; exact List.mem_append_left _ (by simp [show i < A.length by omega]))
        (repeat (first | (with_reducible refine AWo.cons ?_) | ((with_reducible refine Step.id ?_); first | ((with_reducible apply Step.move); exact rfl; exact rfl) | ((with_reducible apply Step.assign); exact rfl; exact rfl) | ((with_reducible apply Step.load); exact rfl; (focus (decide +kernel)); exact rfl; (focus (exact w1.old _))) | ((with_reducible apply Step.ix1); exact rfl; (focus (assumption)); exact rfl; (focus (decide +kernel)); exact rfl; (focus (omega))) | ((with_reducible apply Step.lss); exact rfl; exact rfl; exact rfl) | ((with_reducible apply Step.len); exact rfl; (focus (assumption)); (focus (decide +kernel)); exact rfl)) | (with_reducible refine AWo.nil ?_) | ((with_reducible apply AW.seq)) | ((with_reducible apply Then.n)) | ((with_reducible apply AW.regL)) | ((with_reducible apply AW.block)) | ((with_reducible apply AW.skip)) | ((with_reducible apply AW.condT); exact rfl; (focus ((simp only [decide_eq_true_eq, decide_eq_false_iff_not, Bool.not_eq_true', Bool.not_eq_false', Bool.not_true, Bool.not_false]; first | assumption | omega))))))
        refine AW.loopT (fun rk t L' => ∃ j : Nat, rk = r - j ∧ j ≤ r ∧ (∀ j', j' < j → 0 ≤ c i j' → 1000000000 - c i j' ≤ A.getD i 0 + B.getD j' 0) ∧ L' = [] ∧ t = [(3, .slice qa na ca), (4, .slice qb nb cb), (14, .int .i64 W.sum), (67, cv), (68, .int .i64 (l : Nat)), (69, .int .i64 (i : Nat)), (17, .int .i64 (i : Nat)), (74, w), (75, .int .i64 (r : Nat)), (76, .int .i64 (j : Nat))])
          ⟨_, _, _, (Or.inl ⟨rfl, (by repeat (first | exact trivial | (refine And.intro rfl ?_)))⟩), 0, rfl, Nat.zero_le _, fun _ h => by omega, rfl, rfl⟩ ?_
        rintro rk t L' ⟨j, rfl, hj, hqj, rfl, rfl⟩
        rcases Nat.lt_or_ge j r with hjr | hjg
        · have w5 := w4 j hjr
          rw [tab_get (c i) hjr] at w5
          have hcb := hcs i j
          have rb := b3 j (by omega)
          have hpb := hp (B.getD j 0) (by rw [← hW]; exact List.mem_append_right _ (by simp [show j < B.length by omega]))
          have hqs : (0 ≤ c i j → 1000000000 - c i j ≤ A.getD i 0 + B.getD j 0) → ∀ j', j' < j + 1 → 0 ≤ c i j' → 1000000000 - c i j' ≤ A.getD i 0 + B.getD j' 0 := fun h j' hj' h0 => by
            by_cases e : j' = j
            · subst e; exact h h0
            · exact hqj j' (by omega) h0
          have hbad : ¬ (0 ≤ c i j → 1000000000 - c i j ≤ A.getD i 0 + B.getD j 0) → ¬ coOk c l r A B := fun h hc => h (hc i hil j hjr)
          generalize A.getD i 0 = x at *
          generalize B.getD j 0 = y at *
          by_cases hcn : 0 ≤ c i j
          · by_cases hlt : x + y < 1000000000 - c i j
            · rw [if_neg (hbad fun h => by have := h hcn; omega)] at hw
              injection hw with e1 e2
              injection e2 with e2 e3
              subst e1 e2 e3
              (repeat (first | (with_reducible refine AWo.cons ?_) | ((with_reducible refine Step.id ?_); first | ((with_reducible apply Step.gdT); exact rfl; exact rfl; (focus ((simp only [decide_eq_true_eq, decide_eq_false_iff_not, Bool.not_eq_true', Bool.not_eq_false', Bool.not_true, Bool.not_false]; first | assumption | omega)))) | ((with_reducible apply Step.move); exact rfl; exact rfl) | ((with_reducible apply Step.assign); exact rfl; exact rfl) | ((with_reducible apply Step.load); exact rfl; (focus (decide +kernel)); exact rfl; (focus (first | exact w5.old _ | exact ra.old _ | exact rb.old _))) | ((with_reducible apply Step.ix1); exact rfl; (focus (assumption)); exact rfl; (focus (decide +kernel)); exact rfl; (focus (omega))) | ((with_reducible apply Step.add); exact rfl; exact rfl; (focus (omega)); exact rfl) | ((with_reducible apply Step.sub); exact rfl; exact rfl; (focus (omega)); exact rfl) | ((with_reducible apply Step.lss); exact rfl; exact rfl; exact rfl) | ((with_reducible apply Step.geq); exact rfl; exact rfl; exact rfl) | ((with_reducible apply Step.pickT); exact rfl; exact rfl; exact rfl; exact rfl; (focus ((simp only [decide_eq_true_eq, decide_eq_false_iff_not, Bool.not_eq_true', Bool.not_eq_false', Bool.not_true, Bool.not_false]; first | assumption | omega))))) | (with_reducible refine AWo.nil ?_) | ((with_reducible apply AW.seq)) | ((with_reducible apply Then.n)) | ((with_reducible apply AW.regL)) | ((with_reducible apply AW.block)) | ((with_reducible apply AW.drawL fit); (focus (decide +kernel))) | ((with_reducible apply AW.skip)) | ((with_reducible apply AW.condT); exact rfl; (focus ((simp only [decide_eq_true_eq, decide_eq_false_iff_not, Bool.not_eq_true', Bool.not_eq_false', Bool.not_true, Bool.not_false]; first | assumption | omega))))))
              (refine AW.ret ?_; (repeat (first | refine Then.r ?_ | refine InBlk.r ?_)))
              obtain ⟨N, rfl⟩ := hmN
              exact ⟨_, rfl, rfl, N, by rw [List.append_nil]⟩
            · (repeat (first | (with_reducible refine AWo.cons ?_) | ((with_reducible refine Step.id ?_); first | ((with_reducible apply Step.gdT); exact rfl; exact rfl; (focus ((simp only [decide_eq_true_eq, decide_eq_false_iff_not, Bool.not_eq_true', Bool.not_eq_false', Bool.not_true, Bool.not_false]; first | assumption | omega)))) | ((with_reducible apply Step.move); exact rfl; exact rfl) | ((with_reducible apply Step.assign); exact rfl; exact rfl) | ((with_reducible apply Step.load); exact rfl; (focus (decide +kernel)); exact rfl; (focus (first | exact w5.old _ | exact ra.old _ | exact rb.old _))) | ((with_reducible apply Step.ix1); exact rfl; (focus (assumption)); exact rfl; (focus (decide +kernel)); exact rfl; (focus (omega))) | ((with_reducible apply Step.add); exact rfl; exact rfl; (focus (omega)); exact rfl) | ((with_reducible apply Step.sub); exact rfl; exact rfl; (focus (omega)); exact rfl) | ((with_reducible apply Step.lss); exact rfl; exact rfl; exact rfl) | ((with_reducible apply Step.geq); exact rfl; exact rfl; exact rfl) | ((with_reducible apply Step.pickT); exact rfl; exact rfl; exact rfl; exact rfl; (focus ((simp only [decide_eq_true_eq, decide_eq_false_iff_not, Bool.not_eq_true', Bool.not_eq_false', Bool.not_true, Bool.not_false]; first | assumption | omega))))) | (with_reducible refine AWo.nil ?_) | ((with_reducible apply AW.seq)) | ((with_reducible apply Then.n)) | ((with_reducible apply AW.regL)) | ((with_reducible apply AW.block)) | ((with_reducible apply AW.drawL fit); (focus (decide +kernel))) | ((with_reducible apply InBlk.n)) | ((with_reducible apply AW.skip)) | ((with_reducible apply AW.condT); exact rfl; (focus ((simp only [decide_eq_true_eq, decide_eq_false_iff_not, Bool.not_eq_true', Bool.not_eq_false', Bool.not_true, Bool.not_false]; first | assumption | omega)))) | ((with_reducible apply AW.condF); exact rfl; (focus ((simp only [decide_eq_true_eq, decide_eq_false_iff_not, Bool.not_eq_true', Bool.not_eq_false', Bool.not_true, Bool.not_false]; first | assumption | omega))))))
              exact ⟨_, _, _, by omega, (Or.inl ⟨rfl, (by repeat (first | exact trivial | (refine And.intro rfl ?_)))⟩), j + 1, rfl, by omega, hqs fun _ => by omega, rfl, rfl⟩
          · (repeat (first | (with_reducible refine AWo.cons ?_) | ((with_reducible refine Step.id ?_); first | ((with_reducible apply Step.gdF); exact rfl; exact rfl; (focus ((simp only [decide_eq_true_eq, decide_eq_false_iff_not, Bool.not_eq_true', Bool.not_eq_false', Bool.not_true, Bool.not_false]; first | assumption | omega)))) | ((with_reducible apply Step.move); exact rfl; exact rfl) | ((with_reducible apply Step.assign); exact rfl; exact rfl) | ((with_reducible apply Step.load); exact rfl; (focus (decide +kernel)); exact rfl; (focus (exact w5.old _))) | ((with_reducible apply Step.ix1); exact rfl; (focus (assumption)); exact rfl; (focus (decide +kernel)); exact rfl; (focus (omega))) | ((with_reducible apply Step.add); exact rfl; exact rfl; (focus (omega)); exact rfl) | ((with_reducible apply Step.lss); exact rfl; exact rfl; exact rfl) | ((with_reducible apply Step.geq); exact rfl; exact rfl; exact rfl) | ((with_reducible apply Step.pickF); exact rfl; exact rfl; exact rfl; exact rfl; (focus ((simp only [decide_eq_true_eq, decide_eq_false_iff_not, Bool.not_eq_true', Bool.not_eq_false', Bool.not_true, Bool.not_false]; first | assumption | omega))))) | (with_reducible refine AWo.nil ?_) | ((with_reducible apply AW.seq)) | ((with_reducible apply Then.n)) | ((with_reducible apply AW.regL)) | ((with_reducible apply AW.block)) | ((with_reducible apply AW.drawL fit); (focus (decide +kernel))) | ((with_reducible apply InBlk.n)) | ((with_reducible apply AW.skip)) | ((with_reducible apply AW.condT); exact rfl; (focus ((simp only [decide_eq_true_eq, decide_eq_false_iff_not, Bool.not_eq_true', Bool.not_eq_false', Bool.not_true, Bool.not_false]; first | assumption | omega)))) | ((with_reducible apply AW.condF); exact rfl; (focus (rfl)))))
            exact ⟨_, _, _, by omega, (Or.inl ⟨rfl, (by repeat (first | exact trivial | (refine And.intro rfl ?_)))⟩), j + 1, rfl, by omega, hqs fun h => absurd h hcn, rfl, rfl⟩
        · have hjr : j = r := by omega
          subst j
          (repeat (first | (with_reducible refine AWo.cons ?_) | ((with_reducible refine Step.id ?_); first | ((with_reducible apply Step.move); exact rfl; exact rfl) | ((with_reducible apply Step.add); exact rfl; exact rfl; (focus (omega)); exact rfl) | ((with_reducible apply Step.lss); exact rfl; exact rfl; exact rfl)) | (with_reducible refine AWo.nil ?_) | ((with_reducible apply AW.seq)) | ((with_reducible apply Then.n)) | ((with_reducible apply AW.regL)) | ((with_reducible apply AW.exit)) | ((with_reducible apply InBlk.n)) | ((with_reducible apply InBlk.hit)) | ((with_reducible apply Then.e)) | ((with_reducible apply AW.condF); exact rfl; (focus ((simp only [decide_eq_true_eq, decide_eq_false_iff_not, Bool.not_eq_true', Bool.not_eq_false', Bool.not_true, Bool.not_false]; first | assumption | omega))))))
          refine ⟨_, _, _, by omega, (Or.inl ⟨rfl, (by repeat (first | exact trivial | (refine And.intro rfl ?_)))⟩), i + 1, rfl, by omega, fun i' hi' j' hj' h0 => ?_, rfl, rfl⟩
          by_cases e : i' = i
          · subst e; exact hqj j' hj' h0
          · exact hq i' (by omega) j' hj' h0
      · have hil : i = l := by omega
        subst i
        rw [if_pos (show coOk c l r A B from hq)] at hw
        injection hw with e1 e2
        injection e2 with e2 e3
        subst e1 e2 e3
        (repeat (first | (with_reducible refine AWo.cons ?_) | ((with_reducible refine Step.id ?_); first | ((with_reducible apply Step.move); exact rfl; exact rfl) | ((with_reducible apply Step.assign); exact rfl; exact rfl) | ((with_reducible apply Step.lss); exact rfl; exact rfl; exact rfl)) | (with_reducible refine AWo.nil ?_) | ((with_reducible apply AW.seq)) | ((with_reducible apply Then.n)) | ((with_reducible apply AW.regL)) | ((with_reducible apply AW.exit)) | ((with_reducible apply InBlk.hit)) | ((with_reducible apply Then.e)) | ((with_reducible apply AW.condF); exact rfl; (focus ((simp only [decide_eq_true_eq, decide_eq_false_iff_not, Bool.not_eq_true', Bool.not_eq_false', Bool.not_true, Bool.not_false]; first | assumption | omega))))))
        (refine AW.ret ?_; (repeat (first | refine Then.r ?_ | refine InBlk.r ?_)))
        obtain ⟨N, rfl⟩ := hmN
        exact ⟨_, rfl, rfl, N, by rw [List.append_nil]⟩
    · rw [if_neg (fun h => hlb h.2)] at hw
      injection hw with e1 e2
      injection e2 with e2 e3
      subst e1 e2 e3
      (repeat (first | (with_reducible refine AWo.cons ?_) | ((with_reducible refine Step.id ?_); first | ((with_reducible apply Step.gdT); exact rfl; exact rfl; (focus ((simp only [decide_eq_true_eq, decide_eq_false_iff_not, Bool.not_eq_true', Bool.not_eq_false', Bool.not_true, Bool.not_false]; first | assumption | omega)))) | ((with_reducible apply Step.move); exact rfl; exact rfl) | ((with_reducible apply Step.assign); exact rfl; exact rfl) | ((with_reducible apply Step.load); exact rfl; (focus (decide +kernel)); exact rfl; (focus (assumption))) | ((with_reducible apply Step.field (k := 1)); exact rfl; (focus (decide +kernel)); exact rfl) | ((with_reducible apply Step.field (k := 2)); exact rfl; (focus (decide +kernel)); exact rfl) | ((with_reducible apply Step.ptrNot); exact rfl; exact rfl; exact un77; exact rfl) | ((with_reducible apply Step.neq); exact rfl; exact rfl; exact rfl) | ((with_reducible apply Step.len); exact rfl; (focus (assumption)); (focus (decide +kernel)); exact rfl) | ((with_reducible apply Step.nilp); exact rfl; exact rfl) | ((with_reducible apply Step.pickF); exact rfl; exact rfl; exact rfl; exact rfl; (focus ((simp only [decide_eq_true_eq, decide_eq_false_iff_not, Bool.not_eq_true', Bool.not_eq_false', Bool.not_true, Bool.not_false]; first | assumption | omega))))) | (with_reducible refine AWo.nil ?_) | ((with_reducible apply AW.seq)) | ((with_reducible apply Then.n)) | ((with_reducible apply AW.regL)) | ((with_reducible apply AW.block)) | ((with_reducible apply AW.condT); exact rfl; (focus ((simp only [decide_eq_true_eq, decide_eq_false_iff_not, Bool.not_eq_true', Bool.not_eq_false', Bool.not_true, Bool.not_false]; first | assumption | omega)))) | ((with_reducible apply AW.condF); exact rfl; (focus (rfl)))))
      (refine AW.ret ?_; (repeat (first | refine Then.r ?_ | refine InBlk.r ?_)))
      obtain ⟨N, rfl⟩ := hMN
      exact ⟨_, rfl, rfl, N, rfl⟩
  · rw [if_neg (fun h => hla h.1)] at hw
    injection hw with e1 e2
    injection e2 with e2 e3
    subst e1 e2 e3
    (repeat (first | (with_reducible refine AWo.cons ?_) | ((with_reducible refine Step.id ?_); first | ((with_reducible apply Step.gdF); exact rfl; exact rfl; (focus ((simp only [decide_eq_true_eq, decide_eq_false_iff_not, Bool.not_eq_true', Bool.not_eq_false', Bool.not_true, Bool.not_false]; first | assumption | omega)))) | ((with_reducible apply Step.move); exact rfl; exact rfl) | ((with_reducible apply Step.assign); exact rfl; exact rfl) | ((with_reducible apply Step.load); exact rfl; (focus (decide +kernel)); exact rfl; (focus (assumption))) | ((with_reducible apply Step.field (k := 1)); exact rfl; (focus (decide +kernel)); exact rfl) | ((with_reducible apply Step.ptrNot); exact rfl; exact rfl; exact un77; exact rfl) | ((with_reducible apply Step.neq); exact rfl; exact rfl; exact rfl) | ((with_reducible apply Step.len); exact rfl; (focus (assumption)); (focus (decide +kernel)); exact rfl) | ((with_reducible apply Step.nilp); exact rfl; exact rfl) | ((with_reducible apply Step.pickT); exact rfl; exact rfl; exact rfl; exact rfl; (focus ((simp only [decide_eq_true_eq, decide_eq_false_iff_not, Bool.not_eq_true', Bool.not_eq_false', Bool.not_true, Bool.not_false]; first | assumption | omega))))) | (with_reducible refine AWo.nil ?_) | ((with_reducible apply AW.seq)) | ((with_reducible apply Then.n)) | ((with_reducible apply AW.regL)) | ((with_reducible apply AW.block)) | ((with_reducible apply AW.condT); exact rfl; (focus (rfl))) | ((with_reducible apply AW.condF); exact rfl; (focus (rfl)))))
    (refine AW.ret ?_; (repeat (first | refine Then.r ?_ | refine InBlk.r ?_)))
    obtain ⟨N, rfl⟩ := hMN
    exact ⟨_, rfl, rfl, N, rfl⟩
end Go.Proofs.Ytajpngnphbdnnaa.Abs
namespace Go.Proofs.Ytajpngnphbdnnaa.Abs
set_option linter.unusedSimpArgs false
set_option linter.unusedVariables false
open Go.RowKit
open Go.Proofs.Ytajpngnphbdnnaa.Sim
section
variable {P : Program} {nt : Nat} {ops : Array Oper} {t : Fm} {m : AM} {K : Fm → AM → Prop} {d T : Nat} {p : String} {af : Array Edge}
/-- A row of one's own without room. -/
def OwnI (m : AM) (i : Nat) (C : List Int) : Prop := ∃ b, m[i]? = some (some b) ∧ b.cells = iv C ∧ b.size = 1 ∧ (b.kind = .own ∨ b.kind = .grow)
theorem Step.appJ {x y : Operand} {X Y e e' : TypeId} {by_ i n : Nat} {z : Array Value} {C B : List Int} {yv : Value} (hx : evo t x = some (.slice (some ⟨i, 0, none⟩) n n)) (hn : C.length = n) (hy : evo t y = some yv) (hI : Ints m yv B) (hE : elemB P X = some (e, 1, by_, z)) (hY : P.underlying Y = some (.slice e'))
    (hb : (n + B.length) * by_ ≤ 1099511627776) (hb2 : n + B.length ≤ 1099511627776) (ho : OwnI m i C) (hlt : Nat.blt d nt = true)
    (hK : ∀ (m' : AM) (j : Nat), (j = i ∨ j = m.length) → OwnI m' j (C ++ B) → (∀ q o v, q ≠ i → Rd m q o v → Rd m' q o v) → (∃ N, m' = m ++ N ∨ m' = m.set i none ++ N) → K (put t d (.slice (some ⟨j, 0, none⟩) (C ++ B).length (C ++ B).length)) m') :
    Step P nt ops ⟨some d, .call ⟨.builtin .append, #[x, y], #[X, Y]⟩, T, p, af, none⟩ t m K := by
  obtain ⟨b, hbi, hbc, hbs, hbk⟩ := ho
  obtain ⟨h1, h2⟩ := acells_ints (hI.old [none])
  have hi : i < m.length := (List.getElem?_eq_some_iff.1 hbi).1
  have hg : (m ++ [none])[i]? = some (some b) := get_old _ hbi
  have hlen : (C ++ B).length = n + B.length := by simp [hn]
  by_cases h0 : B.length = 0
  · have hB : B = [] := List.eq_nil_of_length_eq_zero h0
    subst hB
    refine .l rfl rfl hlt rfl (by simp [Op.operands, Call.operands, hx, hy]) (loud_of_aloud rfl (v := .slice (some ⟨i, 0, none⟩) n n) (m' := m ++ [none]) ?_ ?_)
    · simp only [aloud, evD_of hx, evD_of hy, aappend, hE, hY, h1, h2]
      rw [if_neg (by simp [iv]), if_pos (show ([] : List Int).length = 0 from rfl)]
    · have := hK (m ++ [none]) i (.inl rfl) ⟨b, hg, by rw [hbc, List.append_nil], hbs, hbk⟩ (fun q o v _ h => h.old _) ⟨[none], .inl rfl⟩
      rw [hlen] at this
      exact this
  · have hnl : ¬ n + B.length ≤ n := by omega
    have hcl : b.cells.length = n := by rw [hbc]; simp [iv, hn]
    have htk : (b.cells.drop 0).take (n * 1) ++ iv B = iv (C ++ B) := by
      rw [List.drop_zero, Nat.mul_one, List.take_of_length_le (by omega), hbc]; simp [iv]
    rcases hbk with hbk | hbk
    · refine .l rfl rfl hlt rfl (by simp [Op.operands, Call.operands, hx, hy]) (loud_of_aloud rfl (v := .slice (some ⟨m.length, 0, none⟩) (n + B.length) (n + B.length)) (m' := m ++ [some { cells := iv (C ++ B), kind := .grow, size := 1 }]) ?_ ?_)
      · simp only [aloud, evD_of hx, evD_of hy, aappend, hE, hY, h1, h2]
        rw [if_neg (by simp [iv, Value.oneCell']), if_neg h0]
        simp only [hg]
        rw [if_neg hnl, if_pos ⟨hb, hb2, Nat.le_refl _⟩]
        simp only [hbk]
        rw [if_pos (by omega), htk, List.set_append_right _ _ (Nat.le_refl _)]
        simp
      · have := hK (m ++ [some { cells := iv (C ++ B), kind := .grow, size := 1 }]) m.length (.inr rfl) ⟨{ cells := iv (C ++ B), kind := .grow, size := 1 }, by simp, rfl, rfl, .inr rfl⟩ (fun q o v _ h => h.old _) ⟨_, .inl rfl⟩
        rw [hlen] at this
        exact this
    · refine .l rfl rfl hlt rfl (by simp [Op.operands, Call.operands, hx, hy]) (loud_of_aloud rfl (v := .slice (some ⟨m.length, 0, none⟩) (n + B.length) (n + B.length)) (m' := m.set i none ++ [some { cells := iv (C ++ B), kind := .grow, size := 1 }]) ?_ ?_)
      · simp only [aloud, evD_of hx, evD_of hy, aappend, hE, hY, h1, h2]
        rw [if_neg (by simp [iv, Value.oneCell']), if_neg h0]
        simp only [hg]
        rw [if_neg hnl, if_pos ⟨hb, hb2, Nat.le_refl _⟩]
        simp only [hbk]
        rw [if_pos ⟨by omega, hbs⟩, htk, List.set_append_left _ _ hi, List.set_append_right _ _ (by simp)]
        simp
      · have := hK (m.set i none ++ [some { cells := iv (C ++ B), kind := .grow, size := 1 }]) m.length (.inr rfl) ⟨{ cells := iv (C ++ B), kind := .grow, size := 1 }, by rw [List.getElem?_append_right (by simp)]; simp, rfl, rfl, .inr rfl⟩ (fun q o v hq h => (by
          obtain ⟨b', k1, k2⟩ := h
          have k3 : Rd (m.set i none) q o v := ⟨b', by rw [List.getElem?_set_ne (Ne.symm hq)]; exact k1, k2⟩
          exact k3.old _)) ⟨_, .inr rfl⟩
        rw [hlen] at this
        exact this
end
end Go.Proofs.Ytajpngnphbdnnaa.Abs
