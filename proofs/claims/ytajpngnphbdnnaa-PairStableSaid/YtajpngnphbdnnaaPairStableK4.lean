/- Proved here: what the proof of PairStable rests on, part 4 of 5. Conditions: those that each theorem names. -/
import Derived.Test.YtajpngnphbdnnaaPairStableK3
namespace Go.Proofs.Ytajpngnphbdnnaa.Abs
set_option linter.unusedSimpArgs false
set_option linter.unusedVariables false
open Go.RowKit
open Go.Proofs.Ytajpngnphbdnnaa.Sim
open Go.Proofs
theorem ze24 : zeroB Try.prog 24 = some #[.int .i64 0, .int .i64 0, .int .i64 0, .int .i64 0] := by kernel_rfl
theorem el31 : elemB Try.prog 31 = some (33, 4, 32, #[.int .i64 0, .int .i64 0, .int .i64 0, .int .i64 0]) := by kernel_rfl
theorem un31 : Try.prog.underlying 31 = some (.slice 33) := by kernel_rfl
theorem bs31 {m : AM} {n : Nat} {x : Gl} : abuildSlice Try.prog m n 31 1 [(0, x.v)] = some (.slice (some ⟨n, 0, none⟩) 1 1, m.set n (some { cells := x.cells })) := by cases x; kernel_rfl
def glC (j : List Gl) : List Value := j.flatMap Gl.cells
theorem glC_len (j : List Gl) : (glC j).length = j.length * 4 := by
  induction j with
  | nil => rfl
  | cons x j ih => simp only [glC, List.flatMap_cons, List.length_append] at ih ⊢; rw [ih]; simp [Gl.cells]; omega
theorem g0_glC (j : List Gl) : ∀ v ∈ glC j, g0 v = true := fun v hv => by
  obtain ⟨x, _, hx⟩ := List.mem_flatMap.1 hv
  simp [Gl.cells] at hx
  rcases hx with rfl | rfl | rfl | rfl <;> rfl
theorem glC_snoc (j : List Gl) (k : Nat) (h : k < j.length) : glC (j.take (k + 1)) = glC (j.take k) ++ (j.getD k default).cells := by
  rw [take_snoc j k default h]; simp [glC]
theorem glC_get (j : List Gl) : ∀ (k : Nat), k < j.length → ∀ (i : Nat) (v : Value), (j.getD k default).cells[i]? = some v → (glC j)[k * 4 + i]? = some v := by
  induction j with
  | nil => intro k h; simp at h
  | cons x j ih =>
    intro k h i v hi
    have hc : x.cells.length = 4 := rfl
    simp only [glC, List.flatMap_cons]
    cases k with
    | zero =>
      have : i < 4 := by
        have := (List.getElem?_eq_some_iff.1 hi).1
        simpa [Gl.cells] using this
      rw [List.getElem?_append_left (by omega)]
      simpa using hi
    | succ k =>
      rw [List.getElem?_append_right (by omega), hc, show (k + 1) * 4 + i - 4 = k * 4 + i by omega]
      exact ih k (by simpa using h) i v (by simpa using hi)
theorem gls_new {M L : AM} {k : Nat} {j : List Gl} (hk : k < L.length) (h : L[k]? = some (gb (glC j) 4)) : Gls (M ++ L) (gv (M.length + k) j.length) j := by
  refine ⟨M.length + k, 0, gv_sl _ _, by simp; omega, fun i hi => ?_⟩
  have hp : 0 < (glC j).length := by rw [glC_len]; omega
  rw [gb_pos hp] at h
  refine ⟨_, by rw [get_app]; exact h, fun q v hq => ?_⟩
  rw [Nat.zero_add]; exact glC_get j i hi q v hq
set_option maxRecDepth 100000 in
theorem lside_ok {m : AM} {v : Value} {j : List Gl} (hj : Gls m v j) (hlen : j.length ≤ 9223372036854775807) : ACall Try.prog 21 #[v] m (NewG (glC (j.take 34)) 4 (j.take 34).length m) := by
  obtain ⟨a, o, h1, h2, h3⟩ := hj
  refine ACall.start Try.func21 rfl rfl ?_
  (repeat (first | (with_reducible refine AWo.cons ?_) | ((with_reducible refine Step.id ?_); first | ((with_reducible apply Step.move); exact rfl; exact rfl) | ((with_reducible apply Step.assign); exact rfl; exact rfl) | ((with_reducible apply Step.len); exact rfl; (focus (assumption)); (focus (decide +kernel)); exact rfl)) | (with_reducible refine AWo.nil ?_) | ((with_reducible apply AW.seq)) | ((with_reducible apply Then.n)) | ((with_reducible apply AW.regL)) | ((with_reducible apply AW.block))))
  refine AW.loopT (fun n t L => ∃ k : Nat, n = j.length - k ∧ k ≤ j.length ∧ k ≤ 34 ∧ L = [gb (glC (j.take k)) 4] ∧
    t = [(3, gv (m.length + 0) k), (6, v), (7, .int .i64 (j.length : Nat)), (8, .int .i64 (k : Nat))]) ⟨_, _, _, Back.pad (by repeat (first | exact trivial | (refine And.intro ⟨rfl, by (first | exact .int _ _ | exact Ren.of_gv (by first | (simp; done) | omega | (simp; omega)) | exact Ren.of_sl (by assumption) (by first | omega | (simp; omega)))⟩ ?_))) CellsOk.nil, 0, rfl, Nat.zero_le _, Nat.zero_le _, rfl, rfl⟩ ?_
  rintro n t L ⟨k, rfl, hk, hk2, rfl, rfl⟩
  have fin : ∀ i, i = k → (k = j.length ∨ k = 34) → (gv (m.length + 0) k = gv (m.length + 0) (j.take 34).length ∧ glC (j.take k) = glC (j.take 34)) := fun i _ h => by
    rcases h with h | h
    · subst h
      rw [List.take_of_length_le (show j.length ≤ 34 by omega), List.take_of_length_le (Nat.le_refl _)]; exact ⟨rfl, rfl⟩
    · subst h
      exact ⟨by rw [List.length_take, Nat.min_eq_left hk], rfl⟩
  have g0c := g0_glC (j.take k)
  rcases Nat.lt_or_ge k j.length with hlt | hge
  · by_cases hk3 : (33 : Int) < (k : Int)
    · (repeat (first | (with_reducible refine AWo.cons ?_) | ((with_reducible refine Step.id ?_); first | ((with_reducible apply Step.move); exact rfl; exact rfl) | ((with_reducible apply Step.assign); exact rfl; exact rfl) | ((with_reducible apply Step.loadL (n := 4)); exact rfl; (focus (decide +kernel)); (focus (decide +kernel)); exact rfl; (focus (exact RdL.old _ (h3 _ hlt))); exact rfl; exact rfl) | ((with_reducible apply Step.ix (s := 4)); exact rfl; (focus (assumption)); exact rfl; (focus (decide +kernel)); exact rfl; (focus (omega))) | ((with_reducible apply Step.lss); exact rfl; exact rfl; exact rfl) | ((with_reducible apply Step.gtr); exact rfl; exact rfl; exact rfl) | ((with_reducible apply Step.alloc 1); exact rfl; exact ze24; exact rfl; (focus (first | (simp only [List.nil_append, List.cons_append, List.set_cons_zero, List.set_cons_succ, iv_set, bv_set, iv_rep, bv_rep]; done) | (simp only [List.nil_append, List.cons_append, List.set_cons_zero, List.set_cons_succ, iv_set, bv_set, iv_rep, bv_rep]; rfl) | rfl))) | ((with_reducible apply Step.storeA (k := 1) (n := 4)); exact rfl; exact rfl; exact rfl; exact rfl; (focus (decide +kernel)); exact rfl; (focus (kernel_rfl)); exact rfl; (focus (first | (simp only [List.nil_append, List.cons_append, List.set_cons_zero, List.set_cons_succ, iv_set, bv_set, iv_rep, bv_rep]; done) | (simp only [List.nil_append, List.cons_append, List.set_cons_zero, List.set_cons_succ, iv_set, bv_set, iv_rep, bv_rep]; rfl) | rfl)))) | (with_reducible refine AWo.nil ?_) | ((with_reducible apply AW.seq)) | ((with_reducible apply Then.n)) | ((with_reducible apply AW.regL)) | ((with_reducible apply AW.block)) | ((with_reducible apply AW.exit)) | ((with_reducible apply InBlk.hit)) | ((with_reducible apply InBlk.miss); exact rfl) | ((with_reducible apply Then.e)) | ((with_reducible apply AW.skip)) | ((with_reducible apply AW.condT); exact rfl; (focus ((simp only [decide_eq_true_eq, decide_eq_false_iff_not, Bool.not_eq_true', Bool.not_eq_false', Bool.not_true, Bool.not_false]; first | assumption | omega))))))
      refine AW.retB (l := [(2, _)]) (L1 := [gb (glC (j.take k)) 4]) (Back.trim rfl rfl (by repeat (first | exact CellsOk.nil | refine CellsOk.gb (by assumption) ?_)) (by repeat (first | exact trivial | (refine And.intro ⟨rfl, by (exact Ren.of_gv (by first | (simp; done) | omega | (simp; omega)))⟩ ?_)))) ?_
      obtain ⟨e1, e2⟩ := fin k rfl (.inr (by omega))
      exact ⟨_, rfl, by rw [e1], by rw [e2]⟩
    · have hl := glC_len (j.take k)
      have hlk : (j.take k).length = k := by simp; omega
      rw [hlk] at hl
      have ts := glC_snoc j k hlt
      have g0n := g0_glC (j.take (k + 1))
      (repeat (first | (with_reducible refine AWo.cons ?_) | ((with_reducible refine Step.id ?_); first | ((with_reducible apply Step.move); exact rfl; exact rfl) | ((with_reducible apply Step.assign); exact rfl; exact rfl) | ((with_reducible apply Step.loadL (n := 4)); exact rfl; (focus (decide +kernel)); (focus (decide +kernel)); exact rfl; (focus (first | exact RdL.new rfl rfl | exact RdL.old _ (h3 _ hlt))); exact rfl; exact rfl) | ((with_reducible apply Step.ix (s := 4)); exact rfl; (focus (assumption)); exact rfl; (focus (decide +kernel)); exact rfl; (focus (omega))) | ((with_reducible apply Step.lss); exact rfl; exact rfl; exact rfl) | ((with_reducible apply Step.gtr); exact rfl; exact rfl; exact rfl) | ((with_reducible apply Step.callR fit); exact rfl; exact Try.func29; exact rfl; exact rfl; exact (glove_ok _)) | ((with_reducible apply Step.alloc 1); exact rfl; exact ze24; exact rfl; (focus (first | (simp only [List.nil_append, List.cons_append, List.set_cons_zero, List.set_cons_succ, iv_set, bv_set, iv_rep, bv_rep]; done) | (simp only [List.nil_append, List.cons_append, List.set_cons_zero, List.set_cons_succ, iv_set, bv_set, iv_rep, bv_rep]; rfl) | rfl))) | ((with_reducible apply Step.storeA (k := 1) (n := 4)); exact rfl; exact rfl; exact rfl; exact rfl; (focus (decide +kernel)); exact rfl; (focus (kernel_rfl)); exact rfl; (focus (first | (simp only [List.nil_append, List.cons_append, List.set_cons_zero, List.set_cons_succ, iv_set, bv_set, iv_rep, bv_rep]; done) | (simp only [List.nil_append, List.cons_append, List.set_cons_zero, List.set_cons_succ, iv_set, bv_set, iv_rep, bv_rep]; rfl) | rfl))) | ((with_reducible apply Step.buildS 2); exact rfl; exact rfl; exact (fun _ _ => bs31); exact rfl; (focus (first | (simp only [List.nil_append, List.cons_append, List.set_cons_zero, List.set_cons_succ, iv_set, bv_set, iv_rep, bv_rep]; done) | (simp only [List.nil_append, List.cons_append, List.set_cons_zero, List.set_cons_succ, iv_set, bv_set, iv_rep, bv_rep]; rfl) | rfl)))) | (with_reducible refine AWo.nil ?_) | ((with_reducible apply AW.seq)) | ((with_reducible apply Then.n)) | ((with_reducible apply AW.regL)) | ((with_reducible apply AW.block)) | ((with_reducible apply AW.skip)) | ((with_reducible apply AW.condT); exact rfl; (focus ((simp only [decide_eq_true_eq, decide_eq_false_iff_not, Bool.not_eq_true', Bool.not_eq_false', Bool.not_true, Bool.not_false]; first | assumption | omega)))) | ((with_reducible apply AW.condF); exact rfl; (focus ((simp only [decide_eq_true_eq, decide_eq_false_iff_not, Bool.not_eq_true', Bool.not_eq_false', Bool.not_true, Bool.not_false]; first | assumption | omega))))))
      ((with_reducible apply Step.appG (k := 3)); exact rfl; exact rfl; exact rfl; exact el31; exact un31; exact rfl; exact rfl; exact rfl; exact hl; exact rfl; exact rfl; exact rfl; (focus (omega)); exact rfl; (focus (first | (simp only [List.nil_append, List.cons_append, List.set_cons_zero, List.set_cons_succ, iv_set, bv_set, iv_rep, bv_rep]; done) | (simp only [List.nil_append, List.cons_append, List.set_cons_zero, List.set_cons_succ, iv_set, bv_set, iv_rep, bv_rep]; rfl) | rfl)))
      (repeat (first | (with_reducible refine AWo.cons ?_) | ((with_reducible refine Step.id ?_); first | ((with_reducible apply Step.move); exact rfl; exact rfl) | ((with_reducible apply Step.assign); exact rfl; exact rfl) | ((with_reducible apply Step.add); exact rfl; exact rfl; (focus (omega)); exact rfl)) | (with_reducible refine AWo.nil ?_) | ((with_reducible apply Then.n)) | ((with_reducible apply AW.regL)) | ((with_reducible apply InBlk.n))))
      rw [ts] at g0n
      refine ⟨_, [(3, .slice (some ⟨m.length + 0, 0, none⟩) (k + 1) (k + 1)), (6, v), (7, .int .i64 (j.length : Nat)), (8, .int .i64 (k + 1 : Nat))], [some { cells := glC (j.take k) ++ (j.getD k default).cells, kind := .grow, size := 4 }], by omega, (Back.mv 0 3 rfl rfl rfl rfl (by intro j b hj h; rcases j with _ | _ | _ | _ | _ | _ | j <;> simp_all) (by repeat (first | exact CellsOk.nil | refine CellsOk.cons (by assumption) ?_)) (by repeat (first | exact trivial | (refine And.intro ⟨_, rfl, by (first | exact .int _ _ | exact Ren.slice_mv (by first | (simp; done) | omega | (simp; omega)) | exact Ren.of_sl_ne (by assumption) (by first | omega | (simp; omega)) (by first | omega | (simp; omega)))⟩ ?_)))), k + 1, rfl, by omega, by omega, ?_, ?_⟩
      · rw [ts, gb_pos (by simp [Gl.cells])]
      · rw [gv_pos (by omega)]
  · (repeat (first | (with_reducible refine AWo.cons ?_) | ((with_reducible refine Step.id ?_); first | ((with_reducible apply Step.move); exact rfl; exact rfl) | ((with_reducible apply Step.assign); exact rfl; exact rfl) | ((with_reducible apply Step.lss); exact rfl; exact rfl; exact rfl)) | (with_reducible refine AWo.nil ?_) | ((with_reducible apply AW.seq)) | ((with_reducible apply Then.n)) | ((with_reducible apply AW.regL)) | ((with_reducible apply AW.exit)) | ((with_reducible apply InBlk.hit)) | ((with_reducible apply Then.e)) | ((with_reducible apply AW.condF); exact rfl; (focus ((simp only [decide_eq_true_eq, decide_eq_false_iff_not, Bool.not_eq_true', Bool.not_eq_false', Bool.not_true, Bool.not_false]; first | assumption | omega))))))
    refine AW.retB (l := [(2, _)]) (L1 := [gb (glC (j.take k)) 4]) (Back.trim rfl rfl (by repeat (first | exact CellsOk.nil | refine CellsOk.gb (by assumption) ?_)) (by repeat (first | exact trivial | (refine And.intro ⟨rfl, by (exact Ren.of_gv (by first | (simp; done) | omega | (simp; omega)))⟩ ?_)))) ?_
    obtain ⟨e1, e2⟩ := fin k rfl (.inl (by omega))
    exact ⟨_, rfl, by rw [e1], by rw [e2]⟩
/-- A side that the law hands on. -/
theorem take34 (l : List Gl) : sB (l.take 34) = sB l ∧ (sB l = true → l.take 34 = l) := by
  by_cases h : l.length ≤ 34
  · rw [List.take_of_length_le h]; exact ⟨rfl, fun _ => rfl⟩
  · have h1 : sB (l.take 34) = false := by simp [sB]; omega
    have h2 : sB l = false := by simp [sB]; omega
    rw [h1, h2]; exact ⟨rfl, fun h => by cases h⟩
set_option maxRecDepth 100000 in
theorem Side_ok {m : AM} {v : Value} {l : List Gl} (hl : Gls m v l) (hlen : l.length ≤ 9223372036854775807) {b : Bool} (hb : sB l = b) : ACall Try.prog 61 #[v] m (Ret (.bool b) m) := by
  subst hb
  obtain ⟨a, o, h1, h2, h3⟩ := hl
  refine ACall.start Try.func61 rfl rfl ?_
  by_cases hbig : 32 < l.length
  · (repeat (first | (with_reducible refine AWo.cons ?_) | ((with_reducible refine Step.id ?_); first | ((with_reducible apply Step.move); exact rfl; exact rfl) | ((with_reducible apply Step.assign); exact rfl; exact rfl) | ((with_reducible apply Step.gtr); exact rfl; exact rfl; exact rfl) | ((with_reducible apply Step.len); exact rfl; (focus (assumption)); (focus (decide +kernel)); exact rfl)) | (with_reducible refine AWo.nil ?_) | ((with_reducible apply AW.seq)) | ((with_reducible apply Then.n)) | ((with_reducible apply AW.regL)) | ((with_reducible apply AW.condT); exact rfl; (focus ((simp only [decide_eq_true_eq, decide_eq_false_iff_not, Bool.not_eq_true', Bool.not_eq_false', Bool.not_true, Bool.not_false]; first | assumption | omega))))))
    (refine AW.retD (l := [(2, _)]) (by repeat (first | exact trivial | (refine And.intro ⟨rfl, by (exact .bool _)⟩ ?_))) ?_; (repeat (first | refine Then.r ?_ | refine InBlk.r ?_)))
    exact ⟨_, rfl, by simp [sB]; omega, rfl⟩
  · (repeat (first | (with_reducible refine AWo.cons ?_) | ((with_reducible refine Step.id ?_); first | ((with_reducible apply Step.move); exact rfl; exact rfl) | ((with_reducible apply Step.assign); exact rfl; exact rfl) | ((with_reducible apply Step.gtr); exact rfl; exact rfl; exact rfl) | ((with_reducible apply Step.len); exact rfl; (focus (assumption)); (focus (decide +kernel)); exact rfl)) | (with_reducible refine AWo.nil ?_) | ((with_reducible apply AW.seq)) | ((with_reducible apply Then.n)) | ((with_reducible apply AW.regL)) | ((with_reducible apply AW.block)) | ((with_reducible apply AW.skip)) | ((with_reducible apply AW.condF); exact rfl; (focus ((simp only [decide_eq_true_eq, decide_eq_false_iff_not, Bool.not_eq_true', Bool.not_eq_false', Bool.not_true, Bool.not_false]; first | assumption | omega))))))
    refine AW.loopT (fun n t L => ∃ k : Nat, n = l.length - k ∧ k ≤ l.length ∧ (∀ i, i < k → gB (l.getD i default) = true) ∧ L = [] ∧
      t = [(8, v), (9, .int .i64 (l.length : Nat)), (10, .int .i64 (k : Nat))]) ⟨_, _, _, (Or.inl ⟨rfl, (by repeat (first | exact trivial | (refine And.intro rfl ?_)))⟩), 0, rfl, Nat.zero_le _, by omega, rfl, rfl⟩ ?_
    rintro n t L ⟨k, rfl, hk, hz, rfl, rfl⟩
    rcases Nat.lt_or_ge k l.length with hlt | hge
    · have hv := fun T => valid_ok (m := m ++ T) (l.getD k default) rfl
      cases hg : gB (l.getD k default) with
      | true =>
        rw [hg] at hv
        (repeat (first | (with_reducible refine AWo.cons ?_) | ((with_reducible refine Step.id ?_); first | ((with_reducible apply Step.move); exact rfl; exact rfl) | ((with_reducible apply Step.loadL (n := 4)); exact rfl; (focus (decide +kernel)); (focus (decide +kernel)); exact rfl; (focus (first | exact RdL.new rfl rfl | exact RdL.old _ (h3 _ hlt))); exact rfl; exact rfl) | ((with_reducible apply Step.ix (s := 4)); exact rfl; (focus (assumption)); exact rfl; (focus (decide +kernel)); exact rfl; (focus (omega))) | ((with_reducible apply Step.add); exact rfl; exact rfl; (focus (omega)); exact rfl) | ((with_reducible apply Step.lss); exact rfl; exact rfl; exact rfl) | ((with_reducible apply Step.not); exact rfl; exact rfl) | ((with_reducible apply Step.callR fit); exact rfl; exact Try.func67; exact rfl; exact rfl; exact (hv _)) | ((with_reducible apply Step.alloc 0); exact rfl; exact ze24; exact rfl; (focus (first | (simp only [List.nil_append, List.cons_append, List.set_cons_zero, List.set_cons_succ, iv_set, bv_set, iv_rep, bv_rep]; done) | (simp only [List.nil_append, List.cons_append, List.set_cons_zero, List.set_cons_succ, iv_set, bv_set, iv_rep, bv_rep]; rfl) | rfl))) | ((with_reducible apply Step.storeA (k := 0) (n := 4)); exact rfl; exact rfl; exact rfl; exact rfl; (focus (decide +kernel)); exact rfl; (focus (kernel_rfl)); exact rfl; (focus (first | (simp only [List.nil_append, List.cons_append, List.set_cons_zero, List.set_cons_succ, iv_set, bv_set, iv_rep, bv_rep]; done) | (simp only [List.nil_append, List.cons_append, List.set_cons_zero, List.set_cons_succ, iv_set, bv_set, iv_rep, bv_rep]; rfl) | rfl)))) | (with_reducible refine AWo.nil ?_) | ((with_reducible apply AW.seq)) | ((with_reducible apply Then.n)) | ((with_reducible apply AW.regL)) | ((with_reducible apply AW.block)) | ((with_reducible apply InBlk.n)) | ((with_reducible apply AW.skip)) | ((with_reducible apply AW.condT); exact rfl; (focus ((simp only [decide_eq_true_eq, decide_eq_false_iff_not, Bool.not_eq_true', Bool.not_eq_false', Bool.not_true, Bool.not_false]; first | assumption | omega)))) | ((with_reducible apply AW.condF); exact rfl; (focus (rfl)))))
        refine ⟨_, _, [], ?_, (Back.trim rfl rfl (by repeat (exact CellsOk.nil)) (by repeat (first | exact trivial | (refine And.intro ⟨rfl, by (first | exact .int _ _ | exact Ren.of_sl (by assumption) (by first | omega | (simp; omega)))⟩ ?_)))), k + 1, rfl, by omega, fun i hi => ?_, rfl, rfl⟩
        · omega
        · by_cases e : i = k
          · subst e; exact hg
          · exact hz i (by omega)
      | false =>
        rw [hg] at hv
        have hn : sB l = false := by
          cases e : sB l with
          | false => rfl
          | true =>
            have : l.length ≤ 32 ∧ l.all gB = true := by simpa [sB] using e
            rw [all_getD this.2 hlt] at hg; cases hg
        (repeat (first | (with_reducible refine AWo.cons ?_) | ((with_reducible refine Step.id ?_); first | ((with_reducible apply Step.assign); exact rfl; exact rfl) | ((with_reducible apply Step.loadL (n := 4)); exact rfl; (focus (decide +kernel)); (focus (decide +kernel)); exact rfl; (focus (first | exact RdL.new rfl rfl | exact RdL.old _ (h3 _ hlt))); exact rfl; exact rfl) | ((with_reducible apply Step.ix (s := 4)); exact rfl; (focus (assumption)); exact rfl; (focus (decide +kernel)); exact rfl; (focus (omega))) | ((with_reducible apply Step.lss); exact rfl; exact rfl; exact rfl) | ((with_reducible apply Step.not); exact rfl; exact rfl) | ((with_reducible apply Step.callR fit); exact rfl; exact Try.func67; exact rfl; exact rfl; exact (hv _)) | ((with_reducible apply Step.alloc 0); exact rfl; exact ze24; exact rfl; (focus (first | (simp only [List.nil_append, List.cons_append, List.set_cons_zero, List.set_cons_succ, iv_set, bv_set, iv_rep, bv_rep]; done) | (simp only [List.nil_append, List.cons_append, List.set_cons_zero, List.set_cons_succ, iv_set, bv_set, iv_rep, bv_rep]; rfl) | rfl))) | ((with_reducible apply Step.storeA (k := 0) (n := 4)); exact rfl; exact rfl; exact rfl; exact rfl; (focus (decide +kernel)); exact rfl; (focus (kernel_rfl)); exact rfl; (focus (first | (simp only [List.nil_append, List.cons_append, List.set_cons_zero, List.set_cons_succ, iv_set, bv_set, iv_rep, bv_rep]; done) | (simp only [List.nil_append, List.cons_append, List.set_cons_zero, List.set_cons_succ, iv_set, bv_set, iv_rep, bv_rep]; rfl) | rfl)))) | (with_reducible refine AWo.nil ?_) | ((with_reducible apply AW.seq)) | ((with_reducible apply Then.n)) | ((with_reducible apply AW.regL)) | ((with_reducible apply AW.block)) | ((with_reducible apply AW.skip)) | ((with_reducible apply AW.condT); exact rfl; (focus (first | rfl | (simp only [decide_eq_true_eq, decide_eq_false_iff_not, Bool.not_eq_true', Bool.not_eq_false', Bool.not_true, Bool.not_false]; first | assumption | omega))))))
        (refine AW.retD (l := [(2, _)]) (by repeat (first | exact trivial | (refine And.intro ⟨rfl, by (exact .bool _)⟩ ?_))) ?_; (repeat (first | refine Then.r ?_ | refine InBlk.r ?_)))
        exact ⟨_, rfl, by rw [hn], rfl⟩
    · (repeat (first | (with_reducible refine AWo.cons ?_) | ((with_reducible refine Step.id ?_); first | ((with_reducible apply Step.assign); exact rfl; exact rfl) | ((with_reducible apply Step.lss); exact rfl; exact rfl; exact rfl)) | (with_reducible refine AWo.nil ?_) | ((with_reducible apply AW.seq)) | ((with_reducible apply Then.n)) | ((with_reducible apply AW.regL)) | ((with_reducible apply AW.exit)) | ((with_reducible apply InBlk.hit)) | ((with_reducible apply Then.e)) | ((with_reducible apply AW.condF); exact rfl; (focus ((simp only [decide_eq_true_eq, decide_eq_false_iff_not, Bool.not_eq_true', Bool.not_eq_false', Bool.not_true, Bool.not_false]; first | assumption | omega))))))
      obtain rfl : k = l.length := by omega
      have hy : sB l = true := by
        simp only [sB, Bool.and_eq_true, decide_eq_true_eq, List.all_eq_true]
        refine ⟨by omega, fun x hx => ?_⟩
        obtain ⟨i, hi, rfl⟩ := List.getElem_of_mem hx
        have := hz i hi
        simpa [hi] using this
      (refine AW.retD (l := [(2, _)]) (by repeat (first | exact trivial | (refine And.intro ⟨rfl, by (exact .bool _)⟩ ?_))) ?_; (repeat (first | refine Then.r ?_ | refine InBlk.r ?_)))
      exact ⟨_, rfl, by rw [hy], rfl⟩
set_option maxRecDepth 100000 in
theorem Good_ok {m : AM} {lv rv : Value} {L R : List Gl} {u : Ru} (hl : Gls m lv L) (hr : Gls m rv R) (h1 : L.length ≤ 9223372036854775807) (h2 : R.length ≤ 9223372036854775807) {b : Bool} (hb : (sB L && sB R && uB u) = b) : ACall Try.prog 26 #[lv, rv, u.v] m (Ret (.bool b) m) := by
  subst hb
  have c1 := fun T => Side_ok (hl.old T) h1 rfl
  have c2 := fun T => Side_ok (hr.old T) h2 rfl
  have c3 := fun T => law_ok (m := m ++ T) u rfl
  refine ACall.start Try.func26 rfl rfl ?_
  cases e1 : sB L with
  | false =>
    rw [e1] at c1
    (repeat (first | (with_reducible refine AWo.cons ?_) | ((with_reducible refine Step.id ?_); first | ((with_reducible apply Step.gdF); exact rfl; exact rfl; (focus (rfl))) | ((with_reducible apply Step.move); exact rfl; exact rfl) | ((with_reducible apply Step.assign); exact rfl; exact rfl) | ((with_reducible apply Step.pickF); exact rfl; exact rfl; exact rfl; exact rfl; (focus (rfl))) | ((with_reducible apply Step.callR fit); exact rfl; exact Try.func61; exact rfl; exact rfl; exact (c1 _)) | ((with_reducible apply Step.box 0); exact rfl; exact rfl; (focus (kernel_rfl)); exact rfl; (focus (first | (simp only [List.nil_append, List.cons_append, List.set_cons_zero, List.set_cons_succ, iv_set, bv_set, iv_rep, bv_rep]; done) | (simp only [List.nil_append, List.cons_append, List.set_cons_zero, List.set_cons_succ, iv_set, bv_set, iv_rep, bv_rep]; rfl) | rfl)))) | (with_reducible refine AWo.nil ?_) | ((with_reducible apply AW.seq)) | ((with_reducible apply Then.n)) | ((with_reducible apply AW.regL))))
    (refine AW.retD (l := [(6, _)]) (by repeat (first | exact trivial | (refine And.intro ⟨rfl, by (exact .bool _)⟩ ?_))) ?_; (repeat (first | refine Then.r ?_ | refine InBlk.r ?_)))
    exact ⟨_, rfl, rfl, rfl⟩
  | true =>
    rw [e1] at c1
    cases e2 : sB R with
    | false =>
      rw [e2] at c2
      (repeat (first | (with_reducible refine AWo.cons ?_) | ((with_reducible refine Step.id ?_); first | ((with_reducible apply Step.gdT); exact rfl; exact rfl; (focus (rfl))) | ((with_reducible apply Step.gdF); exact rfl; exact rfl; (focus (rfl))) | ((with_reducible apply Step.move); exact rfl; exact rfl) | ((with_reducible apply Step.assign); exact rfl; exact rfl) | ((with_reducible apply Step.pickT); exact rfl; exact rfl; exact rfl; exact rfl; (focus (rfl))) | ((with_reducible apply Step.pickF); exact rfl; exact rfl; exact rfl; exact rfl; (focus (rfl))) | ((with_reducible apply Step.callR fit); exact rfl; exact Try.func61; exact rfl; exact rfl; exact (c1 _)) | ((with_reducible apply Step.callR fit); exact rfl; exact Try.func61; exact rfl; exact rfl; exact (c2 _)) | ((with_reducible apply Step.box 0); exact rfl; exact rfl; (focus (kernel_rfl)); exact rfl; (focus (first | (simp only [List.nil_append, List.cons_append, List.set_cons_zero, List.set_cons_succ, iv_set, bv_set, iv_rep, bv_rep]; done) | (simp only [List.nil_append, List.cons_append, List.set_cons_zero, List.set_cons_succ, iv_set, bv_set, iv_rep, bv_rep]; rfl) | rfl)))) | (with_reducible refine AWo.nil ?_) | ((with_reducible apply AW.seq)) | ((with_reducible apply Then.n)) | ((with_reducible apply AW.regL))))
      (refine AW.retD (l := [(6, _)]) (by repeat (first | exact trivial | (refine And.intro ⟨rfl, by (exact .bool _)⟩ ?_))) ?_; (repeat (first | refine Then.r ?_ | refine InBlk.r ?_)))
      exact ⟨_, rfl, rfl, rfl⟩
    | true =>
      rw [e2] at c2
      (repeat (first | (with_reducible refine AWo.cons ?_) | ((with_reducible refine Step.id ?_); first | ((with_reducible apply Step.gdT); exact rfl; exact rfl; (focus (rfl))) | ((with_reducible apply Step.move); exact rfl; exact rfl) | ((with_reducible apply Step.assign); exact rfl; exact rfl) | ((with_reducible apply Step.loadL (n := 8)); exact rfl; (focus (decide +kernel)); (focus (decide +kernel)); exact rfl; (focus (exact RdL.new rfl rfl)); exact rfl; exact rfl) | ((with_reducible apply Step.pickT); exact rfl; exact rfl; exact rfl; exact rfl; (focus (rfl))) | ((with_reducible apply Step.callR fit); exact rfl; exact Try.func61; exact rfl; exact rfl; exact (c1 _)) | ((with_reducible apply Step.callR fit); exact rfl; exact Try.func61; exact rfl; exact rfl; exact (c2 _)) | ((with_reducible apply Step.callR fit); exact rfl; exact Try.func62; exact rfl; exact rfl; exact (c3 _)) | ((with_reducible apply Step.box 0); exact rfl; exact rfl; (focus (kernel_rfl)); exact rfl; (focus (first | (simp only [List.nil_append, List.cons_append, List.set_cons_zero, List.set_cons_succ, iv_set, bv_set, iv_rep, bv_rep]; done) | (simp only [List.nil_append, List.cons_append, List.set_cons_zero, List.set_cons_succ, iv_set, bv_set, iv_rep, bv_rep]; rfl) | rfl)))) | (with_reducible refine AWo.nil ?_) | ((with_reducible apply AW.seq)) | ((with_reducible apply Then.n)) | ((with_reducible apply AW.regL))))
      (refine AW.retD (l := [(6, _)]) (by repeat (first | exact trivial | (refine And.intro ⟨rfl, by (exact .bool _)⟩ ?_))) ?_; (repeat (first | refine Then.r ?_ | refine InBlk.r ?_)))
      exact ⟨_, rfl, by simp, rfl⟩
end Go.Proofs.Ytajpngnphbdnnaa.Abs
namespace Go.Proofs.Ytajpngnphbdnnaa.Abs
set_option linter.unusedSimpArgs false
set_option linter.unusedVariables false
open Go.RowKit
open Go.Proofs.Ytajpngnphbdnnaa.Sim
open Go.Proofs
/-- The table as a slice of rows. -/
def RT (m : AM) (v : Value) (c : Nat → Nat → Int) (l r : Nat) : Prop := ∃ b o, Sl v b o l ∧ b < m.length ∧ ∀ i, i < l → ∃ w, Rd m b (o + i) w ∧ Ints m w (tab (c i) r)
theorem RT.old {m : AM} {v : Value} {c : Nat → Nat → Int} {l r : Nat} (L : AM) (h : RT m v c l r) : RT (m ++ L) v c l r := by
  obtain ⟨b, o, h5, h6, h7⟩ := h
  exact ⟨b, o, h5, by simp; omega, fun i hi => by
    obtain ⟨w, k1, k2⟩ := h7 i hi
    exact ⟨w, k1.old L, k2.old L⟩⟩
set_option maxHeartbeats 4000000 in
set_option maxRecDepth 100000 in
theorem table_ok {m : AM} {lv rv : Value} {u : Ru} {L R : List Gl} (hl : Gls m lv L) (hr : Gls m rv R) (hL : sB L = true) (hR : sB R = true) (hu : uB u = true) : ACall Try.prog 59 #[lv, rv, u.v] m (More (fun M v => RT M v (cT u L R) L.length R.length) m) := by
  have h1 : L.length ≤ 32 ∧ L.all gB = true := by simpa [sB] using hL
  have h2 : R.length ≤ 32 ∧ R.all gB = true := by simpa [sB] using hR
  have h3 : gB u.w = true ∧ gB u.l = true := by simpa [uB] using hu
  have r0 : ∀ T : AM, RdL (m ++ (some { cells := u.cells } :: T)) (m.length + 0) 0 u.cells := fun T => RdL.new rfl rfl
  obtain ⟨la, lo, l1, l2, l3⟩ := id hl
  obtain ⟨ra, ro, r1, r2, r3⟩ := id hr
  refine ACall.start Try.func59 rfl rfl ?_
  (repeat (first | (with_reducible refine AWo.cons ?_) | ((with_reducible refine Step.id ?_); first | ((with_reducible apply Step.move); exact rfl; exact rfl) | ((with_reducible apply Step.assign); exact rfl; exact rfl) | ((with_reducible apply Step.len); exact rfl; (focus (assumption)); (focus (decide +kernel)); exact rfl) | ((with_reducible apply Step.box 0); exact rfl; exact rfl; (focus (kernel_rfl)); exact rfl; (focus (first | (simp only [List.nil_append, List.cons_append, List.set_cons_zero, List.set_cons_succ, iv_set, bv_set, iv_rep, bv_rep]; done) | (simp only [List.nil_append, List.cons_append, List.set_cons_zero, List.set_cons_succ, iv_set, bv_set, iv_rep, bv_rep]; rfl) | rfl)))) | (with_reducible refine AWo.nil ?_) | ((with_reducible apply AW.seq)) | ((with_reducible apply Then.n)) | ((with_reducible apply AW.regL)) | ((with_reducible apply AW.block))))
  refine AW.loopW (fun rk t M => ∃ (k : Nat) (N : AM) (cv : Value) (ws : List Value), rk = L.length - k ∧ k ≤ L.length ∧ M = m ++ N ∧ 0 < N.length ∧ RdL M (m.length + 0) 0 u.cells ∧
    Spn M (m.length + 1) cv ws ∧ ws.length = k ∧ Rws M (m.length + 1) (m.length + 0) ws (cT u L R) R.length ∧
    t = fr [(1, rv), (5, .pointer (some ⟨m.length + 0, 0, none⟩)), (7, cv), (13, lv), (14, .int .i64 (L.length : Nat)), (15, .int .i64 (k : Nat))])
    ⟨_, _, (by repeat (first | exact trivial | (refine And.intro rfl ?_))), 0, _, _, [], rfl, Nat.zero_le _, rfl, by simp, r0 _, .inl ⟨rfl, rfl⟩, rfl, fun i hi => by simp at hi, rfl⟩ ?_
  rintro rk t M ⟨k, N, cv, ws, rfl, hk, hM, hN0, rU, hsp, hws, hrw, rfl⟩
  rcases Nat.lt_or_ge k L.length with hlt | hge
  · have hxv := all_getD h1.2 hlt
    have hML0 : m.length + 1 ≤ M.length := by rw [hM]; simp; omega
    have w5 : Low M.length (.pointer (some ⟨m.length + 0, 0, none⟩)) := .ptr (by omega)
    have wl : Low M.length lv := Low.of_sl l1 (by rw [hM]; simp; omega)
    have wr : Low M.length rv := Low.of_sl r1 (by rw [hM]; simp; omega)
    have wc : Low M.length cv := by
      rcases hsp with ⟨_, h⟩ | ⟨_, s, _, h, hs⟩
      · rw [h]; exact fun _ _ _ _ => .sliceNil
      · rw [h]; exact .slice (List.getElem?_eq_some_iff.1 hs).1
    have hg0 : ∀ v ∈ (L.getD k default).cells, g0 v = true := fun v hv => g0_iv [_, _, _, _] v hv
    have rx : ∀ T, RdL (M ++ T) la (lo + k * 4) (L.getD k default).cells := fun T => by rw [hM]; exact ((l3 k hlt).old N).old T
    have ry : ∀ j, j < R.length → ∀ T, RdL (M ++ T) ra (ro + j * 4) (R.getD j default).cells := fun j hj T => by rw [hM]; exact ((r3 j hj).old N).old T
    refine AW.rebase ?_
    (repeat (first | (with_reducible refine AWo.cons ?_) | ((with_reducible refine Step.id ?_); first | ((with_reducible apply Step.move); exact rfl; exact rfl) | ((with_reducible apply Step.assign); exact rfl; exact rfl) | ((with_reducible apply Step.loadL (n := 4)); exact rfl; (focus (decide +kernel)); (focus (decide +kernel)); exact rfl; (focus (exact rx _)); exact rfl; exact rfl) | ((with_reducible apply Step.ix (s := 4)); exact rfl; (focus (assumption)); exact rfl; (focus (decide +kernel)); exact rfl; (focus (omega))) | ((with_reducible apply Step.lss); exact rfl; exact rfl; exact rfl) | ((with_reducible apply Step.len); exact rfl; (focus (assumption)); (focus (decide +kernel)); exact rfl) | ((with_reducible apply Step.alloc 0); exact rfl; exact ze24; exact rfl; (focus (first | (simp only [List.nil_append, List.cons_append, List.set_cons_zero, List.set_cons_succ, iv_set, bv_set, iv_rep, bv_rep]; done) | (simp only [List.nil_append, List.cons_append, List.set_cons_zero, List.set_cons_succ, iv_set, bv_set, iv_rep, bv_rep]; rfl) | rfl))) | ((with_reducible apply Step.storeA (k := 0) (n := 4)); exact rfl; exact rfl; exact rfl; exact rfl; (focus (decide +kernel)); exact rfl; (focus (kernel_rfl)); exact rfl; (focus (first | (simp only [List.nil_append, List.cons_append, List.set_cons_zero, List.set_cons_succ, iv_set, bv_set, iv_rep, bv_rep]; done) | (simp only [List.nil_append, List.cons_append, List.set_cons_zero, List.set_cons_succ, iv_set, bv_set, iv_rep, bv_rep]; rfl) | rfl))) | ((with_reducible apply Step.make1 1); exact rfl; exact rfl; exact rfl; exact el27; (focus (omega)); exact rfl; (focus (first | (simp only [List.nil_append, List.cons_append, List.set_cons_zero, List.set_cons_succ, iv_set, bv_set, iv_rep, bv_rep]; done) | (simp only [List.nil_append, List.cons_append, List.set_cons_zero, List.set_cons_succ, iv_set, bv_set, iv_rep, bv_rep]; rfl) | rfl)))) | (with_reducible refine AWo.nil ?_) | ((with_reducible apply AW.seq)) | ((with_reducible apply Then.n)) | ((with_reducible apply AW.regL)) | ((with_reducible apply AW.block)) | ((with_reducible apply AW.skip)) | ((with_reducible apply AW.condT); exact rfl; (focus ((simp only [decide_eq_true_eq, decide_eq_false_iff_not, Bool.not_eq_true', Bool.not_eq_false', Bool.not_true, Bool.not_false]; first | assumption | omega))))))
    refine AW.loopT (fun rk t L' => ∃ j : Nat, rk = R.length - j ∧ j ≤ R.length ∧ L' = [some { cells := (L.getD k default).cells }, some { cells := iv (tab (fun q => if q < j then cT u L R k q else 0) R.length) }] ∧
      t = [(1, rv), (5, .pointer (some ⟨m.length + 0, 0, none⟩)), (7, cv), (13, lv), (14, .int .i64 (L.length : Nat)), (15, .int .i64 (k : Nat)), (9, .pointer (some ⟨M.length + 0, 0, none⟩)), (10, .slice (some ⟨M.length + 1, 0, none⟩) R.length R.length), (22, rv), (23, .int .i64 (R.length : Nat)), (24, .int .i64 (j : Nat))])
      ⟨_, _, _, (Or.inl ⟨rfl, (by repeat (first | exact trivial | (refine And.intro rfl ?_)))⟩), 0, rfl, Nat.zero_le _, by rw [tab_rep]; simp; rfl, rfl⟩ ?_
    rintro rk t L' ⟨j, rfl, hj, rfl, rfl⟩
    rcases Nat.lt_or_ge j R.length with hjl | hjg
    · have hyv := all_getD h2.2 hjl
      have hcst := fun T => price_ok (m := M ++ T) u _ _ h3.1 h3.2 hxv hyv rfl
      have ecT : cT u L R k j = costF u (L.getD k default) (R.getD j default) := if_pos ⟨hlt, hjl⟩
      rw [← ecT] at hcst
      (repeat (first | (with_reducible refine AWo.cons ?_) | ((with_reducible refine Step.id ?_); first | ((with_reducible apply Step.move); exact rfl; exact rfl) | ((with_reducible apply Step.assign); exact rfl; exact rfl) | ((with_reducible apply Step.loadL (n := 4)); exact rfl; (focus (decide +kernel)); (focus (decide +kernel)); exact rfl; (focus (first | exact RdL.new rfl rfl | exact ry j hjl _)); exact rfl; exact rfl) | ((with_reducible apply Step.loadL (n := 8)); exact rfl; (focus (decide +kernel)); (focus (decide +kernel)); exact rfl; (focus (exact RdL.old _ (by assumption))); exact rfl; exact rfl) | ((with_reducible apply Step.ix1z); exact rfl; (focus (exact Sl.mk (by omega))); exact rfl; (focus (decide +kernel)); exact rfl; (focus (omega))) | ((with_reducible apply Step.ix (s := 4)); exact rfl; (focus (assumption)); exact rfl; (focus (decide +kernel)); exact rfl; (focus (omega))) | ((with_reducible apply Step.add); exact rfl; exact rfl; (focus (omega)); exact rfl) | ((with_reducible apply Step.lss); exact rfl; exact rfl; exact rfl) | ((with_reducible apply Step.callR fit); exact rfl; exact Try.func51; exact rfl; exact rfl; exact (hcst _)) | ((with_reducible apply Step.store (k := 1)); exact rfl; exact rfl; exact rfl; exact rfl; (focus (decide +kernel)); exact rfl; exact rfl; (focus (first | omega | (simp [iv, bv]; done) | (simp [iv, bv]; omega))); (focus (first | (simp only [List.nil_append, List.cons_append, List.set_cons_zero, List.set_cons_succ, iv_set, bv_set, iv_rep, bv_rep]; done) | (simp only [List.nil_append, List.cons_append, List.set_cons_zero, List.set_cons_succ, iv_set, bv_set, iv_rep, bv_rep]; rfl) | rfl))) | ((with_reducible apply Step.alloc 2); exact rfl; exact ze24; exact rfl; (focus (first | (simp only [List.nil_append, List.cons_append, List.set_cons_zero, List.set_cons_succ, iv_set, bv_set, iv_rep, bv_rep]; done) | (simp only [List.nil_append, List.cons_append, List.set_cons_zero, List.set_cons_succ, iv_set, bv_set, iv_rep, bv_rep]; rfl) | rfl))) | ((with_reducible apply Step.storeA (k := 2) (n := 4)); exact rfl; exact rfl; exact rfl; exact rfl; (focus (decide +kernel)); exact rfl; (focus (kernel_rfl)); exact rfl; (focus (first | (simp only [List.nil_append, List.cons_append, List.set_cons_zero, List.set_cons_succ, iv_set, bv_set, iv_rep, bv_rep]; done) | (simp only [List.nil_append, List.cons_append, List.set_cons_zero, List.set_cons_succ, iv_set, bv_set, iv_rep, bv_rep]; rfl) | rfl)))) | (with_reducible refine AWo.nil ?_) | ((with_reducible apply AW.seq)) | ((with_reducible apply Then.n)) | ((with_reducible apply AW.regL)) | ((with_reducible apply AW.block)) | ((with_reducible apply InBlk.n)) | ((with_reducible apply AW.skip)) | ((with_reducible apply AW.condT); exact rfl; (focus ((simp only [decide_eq_true_eq, decide_eq_false_iff_not, Bool.not_eq_true', Bool.not_eq_false', Bool.not_true, Bool.not_false]; first | assumption | omega))))))
      refine ⟨_, _, [some { cells := (L.getD k default).cells }, some { cells := iv (tab (Hung.up (fun q => if q < j then cT u L R k q else 0) j (cT u L R k j)) R.length) }], ?_, by rw [← tab_set]; exact (Back.trim rfl rfl (by repeat (first | exact CellsOk.nil | refine CellsOk.cons (by first | assumption | exact g0_iv _) ?_)) (by repeat (first | exact trivial | (refine And.intro ⟨rfl, by (first | exact Low.rid (by assumption) (by simp) | exact .int _ _ | exact .slice _ _ _ _ (by first | (simp; done) | omega | (simp; omega)) | exact .ptr _ _ (by first | (simp; done) | omega | (simp; omega)))⟩ ?_)))), j + 1, rfl, by omega, ?_, rfl⟩
      · omega
      · have : Hung.up (fun q => if q < j then cT u L R k q else 0) j (cT u L R k j) = fun q => if q < j + 1 then cT u L R k q else 0 := by
          funext q
          simp only [Hung.up]
          by_cases e : q = j
          · subst e; rw [if_pos rfl, if_pos (by omega)]
          · rw [if_neg e]
            by_cases d : q < j
            · rw [if_pos d, if_pos (by omega)]
            · rw [if_neg d, if_neg (by omega)]
        rw [this]
    · obtain rfl : j = R.length := by omega
      have etab : tab (fun q => if q < R.length then cT u L R k q else 0) R.length = tab (cT u L R k) R.length := tab_congr fun q hq => if_pos hq
      rw [etab]
      obtain ⟨M3, hM3⟩ : ∃ M3, M ++ [some { cells := (L.getD k default).cells }, some { cells := iv (tab (cT u L R k) R.length) }, some { cells := [.slice (some ⟨M.length + 1, 0, none⟩) R.length R.length] }] = M3 := ⟨_, rfl⟩
      have g1 : M3[M.length + 1]? = some (some { cells := iv (tab (cT u L R ws.length) R.length) }) := by rw [← hM3, get_app, hws]; rfl
      have g2 : M3[M.length + 2]? = some (some { cells := [.slice (some ⟨M.length + 1, 0, none⟩) R.length R.length] }) := by rw [← hM3, get_app]; rfl
      have g4 : RdL M3 (m.length + 0) 0 u.cells := by rw [← hM3]; exact rU.old _
      have s3 : Spn M3 (m.length + 1) cv ws := by rw [← hM3]; exact hsp.old _
      have w3 : Rws M3 (m.length + 1) (m.length + 0) ws (cT u L R) R.length := by rw [← hM3]; exact hrw.old _
      have l3' : M3.length = M.length + 3 := by rw [← hM3]; simp
      have p3 : ∃ N', M3 = m ++ N' ∧ 0 < N'.length := ⟨_, by rw [← hM3, hM, List.append_assoc], by simp⟩
      obtain ⟨G1, G2⟩ := s3.grow w3 (b := M.length + 1) (by omega) (by omega) g1 (by omega)
      obtain ⟨N', hN', hN0'⟩ := p3
      rcases hsp with ⟨z1, z2⟩ | ⟨z1, sp, z2, z3, z4⟩
      · obtain ⟨y1, y2⟩ := G1 z1
        subst z1 z2
        (repeat (first | (with_reducible refine AWo.cons ?_) | ((with_reducible refine Step.id ?_); first | ((with_reducible apply Step.move); exact rfl; exact rfl) | ((with_reducible apply Step.lss); exact rfl; exact rfl; exact rfl) | ((with_reducible apply Step.buildS 2); exact rfl; exact rfl; exact (fun _ _ => bs80); exact rfl; (focus (first | (simp only [List.nil_append, List.cons_append, List.set_cons_zero, List.set_cons_succ, iv_set, bv_set, iv_rep, bv_rep]; done) | (simp only [List.nil_append, List.cons_append, List.set_cons_zero, List.set_cons_succ, iv_set, bv_set, iv_rep, bv_rep]; rfl) | rfl)))) | (with_reducible refine AWo.nil ?_) | ((with_reducible apply AW.seq)) | ((with_reducible apply Then.n)) | ((with_reducible apply AW.regL)) | ((with_reducible apply AW.exit)) | ((with_reducible apply InBlk.hit)) | ((with_reducible apply Then.e)) | ((with_reducible apply AW.condF); exact rfl; (focus ((simp only [decide_eq_true_eq, decide_eq_false_iff_not, Bool.not_eq_true', Bool.not_eq_false', Bool.not_true, Bool.not_false]; first | assumption | omega))))))
        rw [hM3]
        ((with_reducible apply Step.appN); exact rfl; exact rfl; exact el80; exact un80; exact g2; exact rfl; (focus (decide +kernel)); exact rfl)
        (repeat (first | (with_reducible refine AWo.cons ?_) | ((with_reducible refine Step.id ?_); first | ((with_reducible apply Step.move); exact rfl; exact rfl) | ((with_reducible apply Step.assign); exact rfl; exact rfl) | ((with_reducible apply Step.add); exact rfl; exact rfl; (focus (omega)); exact rfl)) | (with_reducible refine AWo.nil ?_) | ((with_reducible apply Then.n)) | ((with_reducible apply AW.regL)) | ((with_reducible apply InBlk.n))))
        refine ⟨_, [(1, rv), (5, .pointer (some ⟨m.length + 0, 0, none⟩)), (7, .slice (some ⟨M3.length, 0, none⟩) 1 1), (13, lv), (14, .int .i64 (L.length : Nat)), (15, .int .i64 ((k + 1 : Nat) : Int))], ?_, (by repeat (first | exact trivial | (refine And.intro rfl ?_))), k + 1, _, _, _, rfl, by omega, by rw [hN', List.append_assoc], by simp, g4.old _, y1, ?_, y2, rfl⟩
        · omega
        · simp at hws ⊢; omega
      · obtain ⟨y1, y2⟩ := G2 sp z3 (by rw [← hM3]; exact get_old _ z4)
        subst z3
        have hspm : m.length ≤ sp := by omega
        (repeat (first | (with_reducible refine AWo.cons ?_) | ((with_reducible refine Step.id ?_); first | ((with_reducible apply Step.move); exact rfl; exact rfl) | ((with_reducible apply Step.lss); exact rfl; exact rfl; exact rfl) | ((with_reducible apply Step.buildS 2); exact rfl; exact rfl; exact (fun _ _ => bs80); exact rfl; (focus (first | (simp only [List.nil_append, List.cons_append, List.set_cons_zero, List.set_cons_succ, iv_set, bv_set, iv_rep, bv_rep]; done) | (simp only [List.nil_append, List.cons_append, List.set_cons_zero, List.set_cons_succ, iv_set, bv_set, iv_rep, bv_rep]; rfl) | rfl)))) | (with_reducible refine AWo.nil ?_) | ((with_reducible apply AW.seq)) | ((with_reducible apply Then.n)) | ((with_reducible apply AW.regL)) | ((with_reducible apply AW.exit)) | ((with_reducible apply InBlk.hit)) | ((with_reducible apply Then.e)) | ((with_reducible apply AW.condF); exact rfl; (focus ((simp only [decide_eq_true_eq, decide_eq_false_iff_not, Bool.not_eq_true', Bool.not_eq_false', Bool.not_true, Bool.not_false]; first | assumption | omega))))))
        rw [hM3]
        ((with_reducible apply Step.appB); exact rfl; exact rfl; exact el80; exact un80; (focus (rw [← hM3]; exact get_old _ z4)); exact rfl; exact g2; exact rfl; (focus (omega)); exact rfl)
        (repeat (first | (with_reducible refine AWo.cons ?_) | ((with_reducible refine Step.id ?_); first | ((with_reducible apply Step.move); exact rfl; exact rfl) | ((with_reducible apply Step.assign); exact rfl; exact rfl) | ((with_reducible apply Step.add); exact rfl; exact rfl; (focus (omega)); exact rfl)) | (with_reducible refine AWo.nil ?_) | ((with_reducible apply Then.n)) | ((with_reducible apply AW.regL)) | ((with_reducible apply InBlk.n))))
        refine ⟨_, [(1, rv), (5, .pointer (some ⟨m.length + 0, 0, none⟩)), (7, .slice (some ⟨M3.length, 0, none⟩) (ws.length + 1) (ws.length + 1)), (13, lv), (14, .int .i64 (L.length : Nat)), (15, .int .i64 ((k + 1 : Nat) : Int))], ?_, (by repeat (first | exact trivial | (refine And.intro rfl ?_))), k + 1, N'.set (sp - m.length) none ++ [some { cells := ws ++ [.slice (some ⟨M.length + 1, 0, none⟩) R.length R.length], kind := .grow, size := 1 }], _, _, rfl, by omega, by rw [hN', ← List.append_assoc, ← List.set_append_right _ _ hspm], by simp, (g4.set (by omega)).old _, y1, ?_, y2, rfl⟩
        · omega
        · simp at hws ⊢; omega
  · obtain rfl : k = L.length := by omega
    (repeat (first | (with_reducible refine AWo.cons ?_) | ((with_reducible refine Step.id ?_); first | ((with_reducible apply Step.move); exact rfl; exact rfl) | ((with_reducible apply Step.assign); exact rfl; exact rfl) | ((with_reducible apply Step.lss); exact rfl; exact rfl; exact rfl)) | (with_reducible refine AWo.nil ?_) | ((with_reducible apply AW.seq)) | ((with_reducible apply Then.n)) | ((with_reducible apply AW.regL)) | ((with_reducible apply AW.exit)) | ((with_reducible apply InBlk.hit)) | ((with_reducible apply Then.e)) | ((with_reducible apply AW.condF); exact rfl; (focus ((simp only [decide_eq_true_eq, decide_eq_false_iff_not, Bool.not_eq_true', Bool.not_eq_false', Bool.not_true, Bool.not_false]; first | assumption | omega))))))
    (refine AW.ret ?_; (repeat (first | refine Then.r ?_ | refine InBlk.r ?_)))
    rcases hsp with ⟨z1, z2⟩ | ⟨z1, sp, z2, z3, z4⟩
    · refine ⟨_, rfl, N, hM, 0, 0, ?_, by rw [hM]; simp; omega, fun i hi => ?_⟩
      · rw [z2, ← hws, z1]; exact Sl.nil _ _
      · rw [z1] at hws; simp at hws; omega
    · refine ⟨_, rfl, N, hM, sp, 0, ?_, (List.getElem?_eq_some_iff.1 z4).1, fun i hi => ?_⟩
      · rw [z3, hws]; exact Sl.mk (Nat.le_refl _)
      · obtain ⟨b, b1, b2, b3, b4⟩ := hrw i (by omega)
        exact ⟨_, ⟨_, z4, by rw [Nat.zero_add]; exact b3⟩, ints_at b4 rfl _ (by simp)⟩
end Go.Proofs.Ytajpngnphbdnnaa.Abs
namespace Go.Proofs.Ytajpngnphbdnnaa.Abs
set_option linter.unusedSimpArgs false
set_option linter.unusedVariables false
open Go.RowKit
open Go.Proofs.Ytajpngnphbdnnaa.Sim
open Go.Proofs
/-- Two valid sides and a valid rule. -/
def okB (L R : List Gl) (u : Ru) : Bool := sB L && sB R && uB u
theorem okB_iff {L R : List Gl} {u : Ru} (h : okB L R u = true) : sB L = true ∧ sB R = true ∧ uB u = true := by
  simp only [okB, Bool.and_eq_true] at h; exact ⟨h.1.1, h.1.2, h.2⟩
theorem okB_len {L R : List Gl} {u : Ru} (h : okB L R u = true) : L.length ≤ 32 ∧ R.length ≤ 32 := by
  obtain ⟨h1, h2, _⟩ := okB_iff h
  simp only [sB, Bool.and_eq_true, decide_eq_true_eq] at h1 h2
  exact ⟨h1.1, h2.1⟩
theorem okB34 (L R : List Gl) (u : Ru) : okB (L.take 34) (R.take 34) u = okB L R u := by
  unfold okB; rw [(take34 L).1, (take34 R).1]
theorem cT34 {L R : List Gl} {u : Ru} (h : okB L R u = true) : L.take 34 = L ∧ R.take 34 = R := by
  obtain ⟨k1, k2, _⟩ := okB_iff h
  exact ⟨(take34 L).2 k1, (take34 R).2 k2⟩
end Go.Proofs.Ytajpngnphbdnnaa.Abs
namespace Go.Proofs.Ytajpngnphbdnnaa.Hung
set_option linter.unusedSimpArgs false
set_option linter.unusedVariables false
def Ed (c : Nat → Nat → Int) (l r : Nat) (gl gr : Nat → Bool) (i j : Nat) : Prop := i < l ∧ j < r ∧ gl i = false ∧ gr j = false ∧ 0 ≤ c i j
def Wt (c : Nat → Nat → Int) (i j : Nat) : Int := 1000000000 - c i j
/-- What a way gains up to a left glove. -/
def stI (c : Nat → Nat → Int) (gain to : Nat → Int) (i : Nat) : Int := if 0 ≤ to i then gain (to i).toNat - Wt c i (to i).toNat else 0
structure Mt (c : Nat → Nat → Int) (l r : Nat) (gl gr : Nat → Bool) (of to : Nat → Int) : Prop where
  t1 : ∀ i, i < l → to i = -1 ∨ ∃ j : Nat, to i = j ∧ Ed c l r gl gr i j ∧ of j = i
  o1 : ∀ j, j < r → of j = -1 ∨ ∃ i : Nat, of j = i ∧ Ed c l r gl gr i j ∧ to i = j
structure Pc (c : Nat → Nat → Int) (l r : Nat) (gl gr : Nat → Bool) (of to a b : Nat → Int) (A : Int) : Prop where
  A0 : 0 ≤ A
  aA : ∀ i, i < l → gl i = false → A ≤ a i ∧ (to i = -1 → a i = A)
  b0 : ∀ j, j < r → gr j = false → 0 ≤ b j ∧ (of j = -1 → b j = 0)
  fe : ∀ i j, Ed c l r gl gr i j → Wt c i j ≤ a i + b j
  ti : ∀ (i j : Nat), i < l → to i = j → a i + b j = Wt c i j
  bA : A ≤ 1000000000
section
variable {c : Nat → Nat → Int} {l r : Nat} {gl gr : Nat → Bool} {of to a b gain : Nat → Int} {fm tau : Nat → Nat} {rl : List Nat} {T : Nat} {A : Int}
/-- How much less than the prices allow the way to a right glove gains. -/
def xs (A : Int) (b gain : Nat → Int) (j : Nat) : Int := A + b j - gain j
/-- The ways found so far: rl are the right gloves that are reached. -/
structure Wy (c : Nat → Nat → Int) (l r : Nat) (gl gr : Nat → Bool) (to b : Nat → Int) (A : Int) (gain : Nat → Int) (fm : Nat → Nat) (rl : List Nat) (tau : Nat → Nat) (T : Nat) : Prop where
  nd : rl.Nodup
  rr : ∀ j ∈ rl, j < r
  un : ∀ j, j < r → j ∉ rl → gain j = -1152921504606846976
  lo : ∀ j ∈ rl, -1000000000 * (rl.length : Int) ≤ gain j
  hi : ∀ j ∈ rl, gain j ≤ A + b j
  ed : ∀ j ∈ rl, Ed c l r gl gr (fm j) j ∧ to (fm j) ≠ j
  ub : ∀ j ∈ rl, gain j ≤ stI c gain to (fm j) + Wt c (fm j) j
  pa : ∀ j ∈ rl, to (fm j) = -1 ∨ ∃ p : Nat, to (fm j) = p ∧ p ∈ rl ∧ (xs A b gain p < xs A b gain j ∨ (xs A b gain p = xs A b gain j ∧ tau p < tau j))
  ta : ∀ j, tau j < T
theorem Wy.start (to b : Nat → Int) (A : Int) (fm : Nat → Nat) : Wy c l r gl gr to b A (fun _ => -1152921504606846976) fm [] (fun _ => 0) 1 :=
  ⟨List.nodup_nil, fun _ h => (by cases h), fun _ _ _ => rfl, fun _ h => (by cases h), fun _ h => (by cases h), fun _ h => (by cases h), fun _ h => (by cases h), fun _ h => (by cases h), fun _ => by omega⟩
theorem Wy.len (h : Wy c l r gl gr to b A gain fm rl tau T) : rl.length ≤ r := by
  have := nodup_le h.nd (k := List.range r) fun x hx => List.mem_range.2 (h.rr x hx)
  simpa using this
/-- A left glove from which a way may go on. -/
def Rd (to : Nat → Int) (rl : List Nat) (i : Nat) : Prop := to i = -1 ∨ ∃ p : Nat, to i = p ∧ p ∈ rl
theorem st_free {i : Nat} (h : to i = -1) : stI c gain to i = 0 := if_neg (by omega)
theorem st_at {i p : Nat} (h : to i = p) : stI c gain to i = gain p - Wt c i p := by
  unfold stI
  rw [h, if_pos (by omega), Int.toNat_natCast]
theorem st_le (hP : Pc c l r gl gr of to a b A) (hW : Wy c l r gl gr to b A gain fm rl tau T) {i : Nat} (hi : i < l) (hg : gl i = false) (hR : Rd to rl i) : stI c gain to i ≤ A - a i := by
  rcases hR with h | ⟨p, h, hp⟩
  · rw [st_free h, (hP.aA i hi hg).2 h]; omega
  · rw [st_at h]
    have := hP.ti i p hi h
    have := hW.hi p hp
    omega
theorem Wy.step (hW : Wy c l r gl gr to b A gain fm rl tau T) (hP : Pc c l r gl gr of to a b A) (hinj : ∀ (i i' j : Nat), i < l → i' < l → to i = j → to i' = j → i = i') {i j : Nat} (he : Ed c l r gl gr i j) (hne : to i ≠ j) (hR : Rd to rl i) (hlt : gain j < stI c gain to i + Wt c i j)
    (hlb : -1000000000 * (rl.length : Int) ≤ stI c gain to i + 1000000000) (hw : 0 ≤ Wt c i j) :
    Wy c l r gl gr to b A (up gain j (stI c gain to i + Wt c i j)) (up fm j i) (if j ∈ rl then rl else j :: rl) (up tau j T) (T + 1) := by
  have hst := st_le hP hW he.1 he.2.2.1 hR
  have hfe := hP.fe i j he
  generalize hs : stI c gain to i = s at *
  have hmem : ∀ q, q ∈ (if j ∈ rl then rl else j :: rl) ↔ q = j ∨ q ∈ rl := fun q => by
    split
    · rename_i h
      exact ⟨.inr, fun h' => h'.elim (fun e => e ▸ h) id⟩
    · simp
  have hlen : (rl.length : Int) ≤ ((if j ∈ rl then rl else j :: rl).length : Nat) := by
    split
    · omega
    · simp only [List.length_cons]; omega
  have gup : ∀ q, q ≠ j → up gain j (s + Wt c i j) q = gain q := fun q h => up_ne _ _ h
  have fup : ∀ q, q ≠ j → up fm j i q = fm q := fun q h => up_ne _ _ h
  have xne : ∀ q, q ≠ j → xs A b (up gain j (s + Wt c i j)) q = xs A b gain q := fun q h => by unfold xs; rw [gup q h]
  have xj : xs A b (up gain j (s + Wt c i j)) j < xs A b gain j := by unfold xs; rw [up_same]; omega
  have stm : ∀ q, stI c gain to q ≤ stI c (up gain j (s + Wt c i j)) to q := fun q => by
    unfold stI
    split
    · by_cases e : (to q).toNat = j
      · rw [e, up_same]; omega
      · rw [gup _ e]; exact Int.le_refl _
    · exact Int.le_refl _
  have stj : stI c (up gain j (s + Wt c i j)) to i = s := by
    rw [← hs]
    rcases hR with h | ⟨p, h, _⟩
    · rw [st_free h, st_free h]
    · have : p ≠ j := fun e => hne (by rw [h, e])
      rw [st_at h, st_at h, up_ne _ _ this]
  refine ⟨?_, fun q hq => ?_, fun q hq hn => ?_, fun q hq => ?_, fun q hq => ?_, fun q hq => ?_, fun q hq => ?_, fun q hq => ?_, fun q => ?_⟩
  · split
    · exact hW.nd
    · rename_i h; exact List.nodup_cons.2 ⟨h, hW.nd⟩
  · rcases (hmem q).1 hq with e | h
    · rw [e]; exact he.2.1
    · exact hW.rr q h
  · have h1 : q ≠ j := fun e => hn ((hmem q).2 (.inl e))
    have h2 : q ∉ rl := fun h => hn ((hmem q).2 (.inr h))
    rw [gup q h1]; exact hW.un q hq h2
  · by_cases e : q = j
    · rw [e, up_same]
      by_cases hj : j ∈ rl
      · have := hW.lo j hj
        simp only [if_pos hj]; omega
      · simp only [if_neg hj, List.length_cons]; omega
    · rw [gup q e]
      have h := ((hmem q).1 hq).resolve_left e
      have := hW.lo q h
      omega
  · by_cases e : q = j
    · rw [e, up_same]; omega
    · rw [gup q e]; exact hW.hi q (((hmem q).1 hq).resolve_left e)
  · by_cases e : q = j
    · rw [e, up_same]; exact ⟨he, hne⟩
    · rw [fup q e]; exact hW.ed q (((hmem q).1 hq).resolve_left e)
  · by_cases e : q = j
    · rw [e, up_same, up_same, stj]; exact Int.le_refl _
    · rw [gup q e, fup q e]
      have := hW.ub q (((hmem q).1 hq).resolve_left e)
      have := stm (fm q)
      omega
  · by_cases e : q = j
    · subst e
      rw [up_same, up_same]
      rcases hR with h | ⟨p, h, hp⟩
      · exact .inl h
      · have hpj : p ≠ q := fun e => hne (by rw [h, e])
        refine .inr ⟨p, h, (hmem p).2 (.inr hp), ?_⟩
        rw [xne p hpj, up_ne _ _ hpj]
        have ht := hP.ti i p he.1 h
        have hs2 := st_at (c := c) (gain := gain) h
        have := hW.ta p
        unfold xs
        rw [up_same]
        omega
    · rw [fup q e, up_ne _ _ e]
      rcases hW.pa q (((hmem q).1 hq).resolve_left e) with h | ⟨p, h, hp, ho⟩
      · exact .inl h
      · refine .inr ⟨p, h, (hmem p).2 (.inr hp), ?_⟩
        rw [xne q e]
        by_cases ep : p = j
        · subst ep
          left; omega
        · rw [xne p ep, up_ne _ _ ep]; exact ho
  · by_cases e : q = j
    · rw [e, up_same]; omega
    · rw [up_ne _ _ e]; have := hW.ta q; omega
/-- Nothing gains any more. -/
def Fx (c : Nat → Nat → Int) (l r : Nat) (gl gr : Nat → Bool) (to gain : Nat → Int) (rl : List Nat) : Prop := ∀ i j, Ed c l r gl gr i j → to i ≠ j → Rd to rl i → stI c gain to i + Wt c i j ≤ gain j
end
end Go.Proofs.Ytajpngnphbdnnaa.Hung
namespace Go.Proofs.Ytajpngnphbdnnaa.Hung
set_option linter.unusedSimpArgs false
set_option linter.unusedVariables false
section
variable {c : Nat → Nat → Int} {l r : Nat} {gl gr : Nat → Bool} {of to a b gain : Nat → Int} {fm tau : Nat → Nat} {rl : List Nat} {T : Nat} {A D : Int}
/-- How far a left glove is. -/
def ys (A : Int) (b gain to : Nat → Int) (i : Nat) : Int := if 0 ≤ to i then xs A b gain (to i).toNat else 0
theorem ys_free {i : Nat} (h : to i = -1) : ys A b gain to i = 0 := if_neg (by omega)
theorem ys_at {i p : Nat} (h : to i = p) : ys A b gain to i = xs A b gain p := by
  unfold ys; rw [h, if_pos (by omega), Int.toNat_natCast]
theorem xs_nonneg (hP : Pc c l r gl gr of to a b A) (hW : Wy c l r gl gr to b A gain fm rl tau T) {j : Nat} (hj : j < r) (hg : gr j = false) : 0 ≤ xs A b gain j := by
  by_cases h : j ∈ rl
  · have := hW.hi j h; unfold xs; omega
  · have := hW.un j hj h
    have := (hP.b0 j hj hg).1
    have := hP.A0
    unfold xs; omega
theorem ys_nonneg (hM : Mt c l r gl gr of to) (hP : Pc c l r gl gr of to a b A) (hW : Wy c l r gl gr to b A gain fm rl tau T) {i : Nat} (hi : i < l) : 0 ≤ ys A b gain to i := by
  rcases hM.t1 i hi with h | ⟨j, h, he, _⟩
  · rw [ys_free h]; exact Int.le_refl _
  · rw [ys_at h]; exact xs_nonneg hP hW he.2.1 he.2.2.2.1
/-- The prices moved by D, by how far each glove is. -/
def na (A D : Int) (a b gain to : Nat → Int) (i : Nat) : Int := a i - D + min (ys A b gain to i) D
def nb (A D : Int) (b gain : Nat → Int) (j : Nat) : Int := b j + D - min (xs A b gain j) D
theorem Pc.move (hM : Mt c l r gl gr of to) (hP : Pc c l r gl gr of to a b A) (hW : Wy c l r gl gr to b A gain fm rl tau T) (hF : Fx c l r gl gr to gain rl) (h0 : 0 ≤ D) (hDA : D ≤ A) (hfree : ∀ j, j < r → gr j = false → of j = -1 → D ≤ xs A b gain j) :
    Pc c l r gl gr of to (na A D a b gain to) (nb A D b gain) (A - D) := by
  have hbA := hP.bA
  refine ⟨by omega, fun i hi hg => ?_, fun j hj hg => ?_, fun i j he => ?_, fun i j hi h => ?_, by omega⟩
  · have h1 := (hP.aA i hi hg).1
    have h2 := ys_nonneg hM hP hW hi
    refine ⟨by unfold na; omega, fun h => ?_⟩
    have := (hP.aA i hi hg).2 h
    unfold na; rw [ys_free h]; omega
  · have h1 := (hP.b0 j hj hg).1
    refine ⟨by unfold nb; omega, fun h => ?_⟩
    have h2 := (hP.b0 j hj hg).2 h
    have h3 := hfree j hj hg h
    unfold nb; omega
  · have hfe := hP.fe i j he
    have key : min (xs A b gain j) D ≤ min (ys A b gain to i) D + (a i + b j - Wt c i j) := by
      by_cases hij : to i = j
      · rw [ys_at hij]; omega
      · rcases hM.t1 i he.1 with h | ⟨p, h, hep, _⟩
        · have h1 := hF i j he hij (.inl h)
          rw [st_free h] at h1
          rw [ys_free h]
          have := (hP.aA i he.1 he.2.2.1).2 h
          unfold xs; omega
        · by_cases hp : p ∈ rl
          · have h1 := hF i j he hij (.inr ⟨p, h, hp⟩)
            rw [st_at h] at h1
            rw [ys_at h]
            have := hP.ti i p he.1 h
            unfold xs; omega
          · rw [ys_at h]
            have h1 := hW.un p hep.2.1 hp
            have h2 := (hP.b0 p hep.2.1 hep.2.2.2.1).1
            unfold xs; omega
    unfold na nb; omega
  · rcases hM.t1 i hi with h' | ⟨p, h', hep, _⟩
    · rw [h] at h'; omega
    · have := hP.ti i j hi h
      unfold na nb; rw [ys_at h]; omega
/-- Prices are no greater than what a pair is worth. -/
theorem Pc.b_le (hM : Mt c l r gl gr of to) (hP : Pc c l r gl gr of to a b A) {j : Nat} (hj : j < r) (hg : gr j = false) : b j ≤ 1000000000 := by
  rcases hM.o1 j hj with h | ⟨i, h, he, ht⟩
  · rw [(hP.b0 j hj hg).2 h]; omega
  · have h1 := hP.ti i j he.1 ht
    have h2 := (hP.aA i he.1 he.2.2.1).1
    have h3 := hP.A0
    have h4 := he.2.2.2.2
    unfold Wt at h1; omega
theorem Pc.start (c : Nat → Nat → Int) (l r : Nat) (gl gr : Nat → Bool) : Pc c l r gl gr (fun _ => -1) (fun _ => -1) (fun _ => 1000000000) (fun _ => 0) 1000000000 :=
  ⟨by omega, fun _ _ _ => ⟨Int.le_refl _, fun _ => rfl⟩, fun _ _ _ => ⟨Int.le_refl _, fun _ => rfl⟩, fun i j he => by have := he.2.2.2.2; unfold Wt; omega, fun i j _ h => by omega, Int.le_refl _⟩
theorem Mt.start (c : Nat → Nat → Int) (l r : Nat) (gl gr : Nat → Bool) : Mt c l r gl gr (fun _ => -1) (fun _ => -1) := ⟨fun _ _ => .inl rfl, fun _ _ => .inl rfl⟩
/-- What the pairs are worth. -/
def valT (c : Nat → Nat → Int) (to : Nat → Int) (l : Nat) : Int := sN (fun i => if 0 ≤ to i then Wt c i (to i).toNat else 0) l
/-- Along a way: the right glove j has lost its partner. -/
structure Pg (c : Nat → Nat → Int) (l r : Nat) (gl gr : Nat → Bool) (of0 to0 : Nat → Int) (a b gain : Nat → Int) (rl : List Nat) (rk : Nat → Nat) (A D V : Int) (of to : Nat → Int) (j : Nat) : Prop where
  jr : j ∈ rl
  jD : xs A b gain j ≤ D
  t1 : ∀ i, i < l → to i = -1 ∨ ∃ q : Nat, to i = q ∧ Ed c l r gl gr i q ∧ of q = i ∧ q ≠ j
  o1 : ∀ q, q < r → q ≠ j → of q = -1 ∨ ∃ i : Nat, of q = i ∧ Ed c l r gl gr i q ∧ to i = q
  kp : ∀ i, i < l → to i = to0 i ∨ ∃ k : Nat, to0 i = k ∧ rk j ≤ rk k ∧ k ∈ rl
  vi : ∀ i, i < l → to i = -1 → to0 i = -1
  fo : ∀ q, q < r → q ≠ j → of q = -1 → of0 q = -1
  ti : ∀ (i q : Nat), i < l → to i = q → na A D a b gain to0 i + nb A D b gain q = Wt c i q
  su : valT c to l + gain j = V
theorem Pg.start (hM : Mt c l r gl gr of to) (hP : Pc c l r gl gr of to a b A) (hP' : Pc c l r gl gr of to (na A D a b gain to) (nb A D b gain) (A - D)) (rk : Nat → Nat) {j : Nat} (hj : j ∈ rl) (hjr : j < r) (hx : xs A b gain j ≤ D) (hf : of j = -1) :
    Pg c l r gl gr of to a b gain rl rk A D (valT c to l + gain j) of to j := by
  refine ⟨hj, hx, fun i hi => ?_, fun q hq _ => hM.o1 q hq, fun _ _ => .inl rfl, fun _ _ h => h, fun _ _ _ h => h, fun i q hi h => hP'.ti i q hi h, rfl⟩
  rcases hM.t1 i hi with h | ⟨q, h1, h2, h3⟩
  · exact .inl h
  · exact .inr ⟨q, h1, h2, h3, fun e => by rw [e] at h3; omega⟩
theorem valT_up (c : Nat → Nat → Int) (to : Nat → Int) {l i : Nat} (j : Nat) (hi : i < l) : valT c (up to i (j : Int)) l = valT c to l + (Wt c i j - (if 0 ≤ to i then Wt c i (to i).toNat else 0)) := by
  unfold valT
  have : (fun k => if 0 ≤ up to i (j : Int) k then Wt c k (up to i (j : Int) k).toNat else 0) = up (fun k => if 0 ≤ to k then Wt c k (to k).toNat else 0) i (Wt c i j) := by
    funext k
    by_cases e : k = i
    · subst e; rw [up_same, up_same, if_pos (by omega), Int.toNat_natCast]
    · rw [up_ne _ _ e, up_ne _ _ e]
  rw [this, sN_up, if_pos hi]
theorem Pg.step (hP : Pc c l r gl gr of to a b A) (hW : Wy c l r gl gr to b A gain fm rl tau T) (hF : Fx c l r gl gr to gain rl) {rk : Nat → Nat} (hrk : ∀ j ∈ rl, to (fm j) = -1 ∨ ∃ p : Nat, to (fm j) = p ∧ p ∈ rl ∧ rk p < rk j) {V : Int} {of' to' : Nat → Int} {j : Nat}
    (h : Pg c l r gl gr of to a b gain rl rk A D V of' to' j) :
    to' (fm j) = to (fm j) ∧ fm j < l ∧
    (to (fm j) = -1 → Mt c l r gl gr (up of' j (fm j : Int)) (up to' (fm j) (j : Int)) ∧ (∀ i, i < l → up to' (fm j) (j : Int) i = -1 → to i = -1) ∧ (∀ q, q < r → up of' j (fm j : Int) q = -1 → of q = -1) ∧
      (∀ (i q : Nat), i < l → up to' (fm j) (j : Int) i = q → na A D a b gain to i + nb A D b gain q = Wt c i q) ∧ valT c (up to' (fm j) (j : Int)) l = V) ∧
    (∀ p : Nat, to (fm j) = p → p < r ∧ rk p < rk j ∧ Pg c l r gl gr of to a b gain rl rk A D V (up of' j (fm j : Int)) (up to' (fm j) (j : Int)) p) := by
  obtain ⟨he, hne⟩ := hW.ed j h.jr
  have hil := he.1
  have hpar := hrk j h.jr
  -- the glove before was not met yet
  have hto : to' (fm j) = to (fm j) := by
    rcases h.kp (fm j) hil with e | ⟨k, e, h1, _⟩
    · exact e
    · rcases hpar with e2 | ⟨p, e2, _, h2⟩
      · rw [e] at e2; omega
      · rw [e] at e2
        have : k = p := by omega
        subst this; omega
  have hRd : Hung.Rd to rl (fm j) := by
    rcases hpar with e | ⟨p, e, hp, _⟩
    · exact .inl e
    · exact .inr ⟨p, e, hp⟩
  have heq : gain j = stI c gain to (fm j) + Wt c (fm j) j := by
    have := hW.ub j h.jr
    have := hF (fm j) j he hne hRd
    omega
  -- the pair that is added is tight
  have htj : na A D a b gain to (fm j) + nb A D b gain j = Wt c (fm j) j := by
    have hjD := h.jD
    have hxj : xs A b gain j = ys A b gain to (fm j) + (a (fm j) + b j - Wt c (fm j) j) := by
      rcases hpar with e | ⟨p, e, hp, _⟩
      · rw [ys_free e]
        rw [st_free e] at heq
        have := (hP.aA (fm j) hil he.2.2.1).2 e
        unfold xs; omega
      · rw [ys_at e]
        rw [st_at e] at heq
        have := hP.ti (fm j) p hil e
        unfold xs; omega
    have hfe := hP.fe (fm j) j he
    unfold na nb; omega
  have htiN : ∀ (i q : Nat), i < l → up to' (fm j) (j : Int) i = q → na A D a b gain to i + nb A D b gain q = Wt c i q := fun i q hi hq => by
    by_cases e : i = fm j
    · subst e
      rw [up_same] at hq
      have : j = q := by omega
      subst this; exact htj
    · rw [up_ne _ _ e] at hq; exact h.ti i q hi hq
  refine ⟨hto, hil, fun hfree => ?_, fun p hp => ?_⟩
  · refine ⟨⟨fun i hi => ?_, fun q hq => ?_⟩, fun i hi hi1 => ?_, fun q hq hq1 => ?_, htiN, ?_⟩
    · by_cases e : i = fm j
      · subst e
        exact .inr ⟨j, up_same .., he, up_same ..⟩
      · rw [up_ne _ _ e]
        rcases h.t1 i hi with h1 | ⟨q, h1, h2, h3, h4⟩
        · exact .inl h1
        · exact .inr ⟨q, h1, h2, by rw [up_ne _ _ h4]; exact h3⟩
    · by_cases e : q = j
      · subst e
        exact .inr ⟨fm q, up_same .., he, up_same ..⟩
      · rw [up_ne _ _ e]
        rcases h.o1 q hq e with h1 | ⟨i, h1, h2, h3⟩
        · exact .inl h1
        · refine .inr ⟨i, h1, h2, ?_⟩
          rw [up_ne _ _ fun e2 => by rw [e2, hto, hfree] at h3; omega]
          exact h3
    · by_cases e : i = fm j
      · rw [e]; exact hfree
      · rw [up_ne _ _ e] at hi1
        exact h.vi i hi hi1
    · by_cases e : q = j
      · subst e; rw [up_same] at hq1; omega
      · rw [up_ne _ _ e] at hq1; exact h.fo q hq e hq1
    · rw [valT_up c to' j hil, hto, hfree, if_neg (by omega)]
      have := h.su
      rw [st_free hfree] at heq
      omega
  · rcases hpar with e0 | ⟨p', e0, hpr, hrkp⟩
    · rw [hp] at e0; omega
    have : p' = p := by omega
    subst this
    have hpn : p' ≠ j := fun e => hne (by rw [hp, e])
    have hpr' := hW.rr p' hpr
    have hofp : of' p' = (fm j : Int) ∧ ∀ i, i < l → to' i = p' → i = fm j := by
      have key : ∀ i, i < l → to' i = p' → of' p' = i := fun i hi h1 => by
        rcases h.t1 i hi with h2 | ⟨q, h2, _, h4, _⟩
        · omega
        · have : q = p' := by omega
          subst this; exact h4
      have h1 := key (fm j) hil (by rw [hto, hp])
      exact ⟨h1, fun i hi h2 => by have := key i hi h2; omega⟩
    refine ⟨hpr', hrkp, ⟨hpr, ?_, fun i hi => ?_, fun q hq hqp => ?_, fun i hi => ?_, fun i hi hi1 => ?_, fun q hq hqp hq1 => ?_, htiN, ?_⟩⟩
    · have hjD := h.jD
      have hfe := hP.fe (fm j) j he
      have ht := hP.ti (fm j) p' hil hp
      rw [st_at hp] at heq
      unfold xs at *; omega
    · by_cases e : i = fm j
      · subst e
        exact .inr ⟨j, up_same .., he, up_same .., Ne.symm hpn⟩
      · rw [up_ne _ _ e]
        rcases h.t1 i hi with h1 | ⟨q, h1, h2, h3, h4⟩
        · exact .inl h1
        · exact .inr ⟨q, h1, h2, by rw [up_ne _ _ h4]; exact h3, fun e2 => e (hofp.2 i hi (by rw [h1, e2]))⟩
    · by_cases e : q = j
      · subst e
        exact .inr ⟨fm q, up_same .., he, up_same ..⟩
      · rw [up_ne _ _ e]
        rcases h.o1 q hq e with h1 | ⟨i, h1, h2, h3⟩
        · exact .inl h1
        · refine .inr ⟨i, h1, h2, ?_⟩
          rw [up_ne _ _ fun e2 => hqp (by rw [e2, hto, hp] at h3; omega)]
          exact h3
    · by_cases e : i = fm j
      · subst e
        exact .inr ⟨p', hp, Nat.le_refl _, hpr⟩
      · rw [up_ne _ _ e]
        rcases h.kp i hi with h1 | ⟨k, h1, h2, h3⟩
        · exact .inl h1
        · exact .inr ⟨k, h1, by omega, h3⟩
    · by_cases e : i = fm j
      · subst e; rw [up_same] at hi1; omega
      · rw [up_ne _ _ e] at hi1; exact h.vi i hi hi1
    · by_cases e : q = j
      · subst e; rw [up_same] at hq1; omega
      · rw [up_ne _ _ e] at hq1; exact h.fo q hq e hq1
    · rw [valT_up c to' j hil, hto, hp, if_pos (by omega), Int.toNat_natCast]
      have := h.su
      rw [st_at hp] at heq
      omega
end
end Go.Proofs.Ytajpngnphbdnnaa.Hung
namespace Go.Proofs.Ytajpngnphbdnnaa.Hung
set_option linter.unusedSimpArgs false
set_option linter.unusedVariables false
section
variable {c : Nat → Nat → Int} {l r : Nat} {gl gr : Nat → Bool} {of to a b gain g0 : Nat → Int} {fm tau : Nat → Nat} {rl rl0 : List Nat} {T : Nat} {A : Int}
theorem Mt.inj (hM : Mt c l r gl gr of to) : ∀ (i i' j : Nat), i < l → i' < l → to i = j → to i' = j → i = i' := fun i i' j hi hi' h h' => by
  rcases hM.t1 i hi with e | ⟨q, e, _, f⟩
  · omega
  · rcases hM.t1 i' hi' with e' | ⟨q', e', _, f'⟩
    · omega
    · have h1 : q = j := by omega
      have h2 : q' = j := by omega
      subst h1 h2; omega
theorem Rd.mono {i : Nat} {k : List Nat} (h : Rd to rl i) (hs : ∀ q ∈ rl, q ∈ k) : Rd to k i := by
  rcases h with h | ⟨p, h, hp⟩
  · exact .inl h
  · exact .inr ⟨p, h, hs p hp⟩
theorem Wy.le (hM : Mt c l r gl gr of to) (hP : Pc c l r gl gr of to a b A) (hW : Wy c l r gl gr to b A gain fm rl tau T) {j : Nat} (hj : j < r) : gain j ≤ 2000000000 := by
  by_cases h : j ∈ rl
  · have := hW.hi j h
    have := hP.b_le hM hj (hW.ed j h).1.2.2.2.1
    have := hP.bA
    omega
  · have := hW.un j hj h; omega
/-- A left glove is reached just if the way up to it gains more than nothing known. -/
theorem Wy.rd (hM : Mt c l r gl gr of to) (hP : Pc c l r gl gr of to a b A) (hW : Wy c l r gl gr to b A gain fm rl tau T) (hc : ∀ i j, c i j ≤ 1000000000) (hr : r ≤ 32) {i : Nat} (hi : i < l) :
    (Rd to rl i ∧ -1000000000 * (rl.length : Int) ≤ stI c gain to i + 1000000000 ∧ -1125899906842624 ≤ stI c gain to i ∧ stI c gain to i ≤ 4000000000) ∨ (¬ Rd to rl i ∧ stI c gain to i < -1125899906842624) := by
  have hn := Int.natCast_nonneg rl.length
  have hl := hW.len
  rcases hM.t1 i hi with h | ⟨p, h, he, _⟩
  · refine .inl ⟨.inl h, ?_⟩
    rw [st_free h]
    omega
  · rw [st_at h]
    have h4 := he.2.2.2.2
    have h5 := hc i p
    have h3 : Wt c i p = 1000000000 - c i p := rfl
    rw [h3]
    by_cases hp : p ∈ rl
    · have h6 := hW.lo p hp
      have h7 := hW.le hM hP he.2.1
      exact .inl ⟨.inr ⟨p, h, hp⟩, by omega, by omega, by omega⟩
    · have := hW.un p he.2.1 hp
      refine .inr ⟨fun hR => ?_, by omega⟩
      rcases hR with e | ⟨q, e, hq⟩
      · omega
      · have : p = q := by omega
        subst this; exact hp hq
def pot (gain : Nat → Int) (r : Nat) : Nat := (sN (fun j => 4000000000 - gain j) r).toNat
theorem pot_up {j : Nat} {x : Int} (hj : j < r) (hle : ∀ q, q < r → gain q ≤ 4000000000) (hx : x ≤ 4000000000) (hlt : gain j < x) : pot (up gain j x) r < pot gain r := by
  have e : (fun q => 4000000000 - up gain j x q) = up (fun q => 4000000000 - gain q) j (4000000000 - x) := by
    funext q
    by_cases e : q = j
    · subst e; rw [up_same, up_same]
    · rw [up_ne _ _ e, up_ne _ _ e]
  unfold pot
  rw [e, sN_up, if_pos hj]
  have h0 : 0 ≤ sN (fun q => 4000000000 - up gain j x q) r := sN_nonneg fun q hq => by
    by_cases e : q = j
    · subst e; rw [up_same]; omega
    · rw [up_ne _ _ e]; have := hle q hq; omega
  rw [e, sN_up, if_pos hj] at h0
  omega
/-- How far one round has come: nothing was bettered and nothing before gains, or something was. -/
def Swp (c : Nat → Nat → Int) (l r : Nat) (gl gr : Nat → Bool) (to g0 : Nat → Int) (rl0 : List Nat) (gain : Nat → Int) (rl : List Nat) (i q : Nat) (ag : Bool) : Prop :=
  (ag = false ∧ gain = g0 ∧ rl = rl0 ∧ ∀ i' j', Ed c l r gl gr i' j' → to i' ≠ j' → Rd to rl i' → (i' < i ∨ i' = i ∧ j' < q) → stI c gain to i' + Wt c i' j' ≤ gain j') ∨ (ag = true ∧ pot gain r < pot g0 r)
theorem Swp.start (g0 : Nat → Int) (rl0 : List Nat) : Swp c l r gl gr to g0 rl0 g0 rl0 0 0 false := .inl ⟨rfl, rfl, rfl, fun _ _ _ _ _ h => by omega⟩
theorem Swp.row {i : Nat} {ag : Bool} (h : Swp c l r gl gr to g0 rl0 gain rl i r ag) : Swp c l r gl gr to g0 rl0 gain rl (i + 1) 0 ag := by
  rcases h with ⟨h1, h2, h3, h4⟩ | h
  · refine .inl ⟨h1, h2, h3, fun i' j' he hne hR ho => h4 i' j' he hne hR ?_⟩
    have := he.2.1
    omega
  · exact .inr h
theorem Swp.skip {i q : Nat} {ag : Bool} (h : Swp c l r gl gr to g0 rl0 gain rl i q ag) (hg : Ed c l r gl gr i q → to i ≠ q → stI c gain to i + Wt c i q ≤ gain q) : Swp c l r gl gr to g0 rl0 gain rl i (q + 1) ag := by
  rcases h with ⟨h1, h2, h3, h4⟩ | h
  · refine .inl ⟨h1, h2, h3, fun i' j' he hne hR ho => ?_⟩
    by_cases e : i' = i ∧ j' = q
    · obtain ⟨rfl, rfl⟩ := e; exact hg he hne
    · exact h4 i' j' he hne hR (by omega)
  · exact .inr h
theorem Swp.take {i q : Nat} {ag : Bool} {x : Int} {k : List Nat} (h : Swp c l r gl gr to g0 rl0 gain rl i q ag) (hq : q < r) (hle : ∀ q, q < r → gain q ≤ 4000000000) (hx : x ≤ 4000000000) (hlt : gain q < x) : Swp c l r gl gr to g0 rl0 (up gain q x) k i (q + 1) true := by
  have := pot_up hq hle hx hlt
  rcases h with ⟨h1, h2, h3, h4⟩ | h
  · subst h2; exact .inr ⟨rfl, this⟩
  · exact .inr ⟨rfl, by omega⟩
end
end Go.Proofs.Ytajpngnphbdnnaa.Hung
namespace Go.Proofs.Ytajpngnphbdnnaa.Abs
set_option linter.unusedSimpArgs false
set_option linter.unusedVariables false
open Go.RowKit
open Go.Proofs.Ytajpngnphbdnnaa.Sim
open Go.Proofs
/-- A row of truths. -/
def BRow (m : AM) (v : Value) (g : Nat → Bool) (n : Nat) : Prop := ∃ a o, Sl v a o n ∧ a < m.length ∧ ∀ k, k < n → Rd m a (o + k) (.bool (g k))
theorem BRow.old {m : AM} {v : Value} {g : Nat → Bool} {n : Nat} (L : AM) (h : BRow m v g n) : BRow (m ++ L) v g n := by
  obtain ⟨a, o, h1, h2, h3⟩ := h
  exact ⟨a, o, h1, by simp; omega, fun k hk => (h3 k hk).old L⟩
theorem fill_step (z y : Int) (k n : Nat) : tab (Hung.up (fun x => if x < k then z else y) k z) n = tab (fun x => if x < k + 1 then z else y) n := tab_congr fun x hx => by
  simp only [Hung.up]
  by_cases e : x = k
  · subst e; rw [if_pos rfl, if_pos (by omega)]
  · rw [if_neg e]
    by_cases c : x < k
    · rw [if_pos c, if_pos (by omega)]
    · rw [if_neg c, if_neg (by omega)]
theorem fill_all (z y : Int) (n : Nat) : tab (fun x => if x < n then z else y) n = tab (fun _ => z) n := tab_congr fun x hx => if_pos hx
end Go.Proofs.Ytajpngnphbdnnaa.Abs
namespace Go.Proofs.Ytajpngnphbdnnaa.Hung
set_option linter.unusedSimpArgs false
set_option linter.unusedVariables false
section
variable {c : Nat → Nat → Int} {l r : Nat} {gl gr : Nat → Bool} {of to a b gain : Nat → Int} {fm tau rk : Nat → Nat} {rl : List Nat} {T : Nat} {A D V : Int} {of' to' : Nat → Int}
/-- The best end of a way among the first k. -/
def Bst (gr : Nat → Bool) (of gain : Nat → Int) (k : Nat) (best : Int) : Prop :=
  (best = -1 ∧ ∀ j, j < k → gr j = false → of j = -1 → gain j ≤ 0) ∨ (∃ q : Nat, best = q ∧ q < k ∧ gr q = false ∧ of q = -1 ∧ 0 < gain q ∧ ∀ j, j < k → gr j = false → of j = -1 → gain j ≤ gain q)
theorem Bst.start (gr : Nat → Bool) (of gain : Nat → Int) : Bst gr of gain 0 (-1) := .inl ⟨rfl, fun _ h => by omega⟩
theorem Bst.skip {k : Nat} {best : Int} (h : Bst gr of gain k best) (hg : gr k = false → of k = -1 → 0 < gain k → 0 ≤ best ∧ gain k ≤ gain best.toNat) : Bst gr of gain (k + 1) best := by
  rcases h with ⟨h1, h2⟩ | ⟨q, h1, h2, h3, h4, h5, h6⟩
  · refine .inl ⟨h1, fun j hj g f => ?_⟩
    rcases Nat.lt_or_ge j k with e | e
    · exact h2 j e g f
    · have : j = k := by omega
      subst this
      rcases Int.lt_or_le 0 (gain j) with h | h
      · have := hg g f h; omega
      · exact h
  · refine .inr ⟨q, h1, by omega, h3, h4, h5, fun j hj g f => ?_⟩
    rcases Nat.lt_or_ge j k with e | e
    · exact h6 j e g f
    · have : j = k := by omega
      subst this
      rcases Int.lt_or_le 0 (gain j) with h | h
      · have := (hg g f h).2
        rw [h1, Int.toNat_natCast] at this; exact this
      · omega
theorem Bst.take {k : Nat} {best : Int} (h : Bst gr of gain k best) (hg : gr k = false) (hf : of k = -1) (hp : 0 < gain k) (hb : best < 0 ∨ gain best.toNat < gain k) : Bst gr of gain (k + 1) (k : Int) := by
  refine .inr ⟨k, rfl, by omega, hg, hf, hp, fun j hj g f => ?_⟩
  rcases Nat.lt_or_ge j k with e | e
  · rcases h with ⟨h1, h2⟩ | ⟨q, h1, h2, h3, h4, h5, h6⟩
    · have := h2 j e g f; omega
    · have := h6 j e g f
      rcases hb with hb | hb
      · omega
      · rw [h1, Int.toNat_natCast] at hb; omega
  · have : j = k := by omega
    subst this; exact Int.le_refl _
/-- Handing on along the way. -/
def Wk (c : Nat → Nat → Int) (l r : Nat) (gl gr : Nat → Bool) (of to a b gain : Nat → Int) (rl : List Nat) (rk : Nat → Nat) (A D V : Int) (of' to' : Nat → Int) (j : Int) : Prop :=
  (∃ q : Nat, j = q ∧ Pg c l r gl gr of to a b gain rl rk A D V of' to' q) ∨ (j = -1 ∧ Mt c l r gl gr of' to' ∧ Pc c l r gl gr of' to' (na A D a b gain to) (nb A D b gain) (A - D) ∧ valT c to' l = V)
theorem Wk.start (hM : Mt c l r gl gr of to) (hP : Pc c l r gl gr of to a b A) (hW : Wy c l r gl gr to b A gain fm rl tau T) (hF : Fx c l r gl gr to gain rl) (rk : Nat → Nat) {q : Nat} (hq : q < r) (hg : gr q = false) (hf : of q = -1) (hp : 0 < gain q) (hmx : ∀ j, j < r → gr j = false → of j = -1 → gain j ≤ gain q) :
    Pc c l r gl gr of to (na A (A - gain q) a b gain to) (nb A (A - gain q) b gain) (A - (A - gain q)) ∧ Wk c l r gl gr of to a b gain rl rk A (A - gain q) (valT c to l + gain q) of to (q : Int) := by
  have hq2 : q ∈ rl := by
    by_cases h : q ∈ rl
    · exact h
    · have := hW.un q hq h; omega
  have hb := (hP.b0 q hq hg).2 hf
  have hhi := hW.hi q hq2
  have hP' := hP.move (D := A - gain q) hM hW hF (by omega) (by omega) fun j hj g f => by
    have h1 := hmx j hj g f
    have h2 := (hP.b0 j hj g).2 f
    unfold xs; omega
  exact ⟨hP', .inl ⟨q, rfl, Pg.start hM hP hP' rk hq2 hq (by unfold xs; omega) hf⟩⟩
theorem Wk.step (hP : Pc c l r gl gr of to a b A) (hW : Wy c l r gl gr to b A gain fm rl tau T) (hF : Fx c l r gl gr to gain rl) (hrk : ∀ j ∈ rl, to (fm j) = -1 ∨ ∃ p : Nat, to (fm j) = p ∧ p ∈ rl ∧ rk p < rk j)
    (hP' : Pc c l r gl gr of to (na A D a b gain to) (nb A D b gain) (A - D)) {q : Nat} (h : Pg c l r gl gr of to a b gain rl rk A D V of' to' q) :
    q < r ∧ fm q < l ∧ to' (fm q) = to (fm q) ∧ Wk c l r gl gr of to a b gain rl rk A D V (up of' q (fm q : Int)) (up to' (fm q) (q : Int)) (to (fm q)) ∧ (to (fm q) = -1 ∨ ∃ p : Nat, to (fm q) = p ∧ rk p < rk q) := by
  obtain ⟨h1, h2, h3, h4⟩ := Pg.step hP hW hF hrk h
  refine ⟨hW.rr q h.jr, h2, h1, ?_⟩
  rcases hrk q h.jr with e | ⟨p, e, _⟩
  · obtain ⟨k1, k2, k3, k4, k5⟩ := h3 e
    refine ⟨.inr ⟨e, k1, ⟨hP'.A0, fun i hi g => ⟨(hP'.aA i hi g).1, fun f => (hP'.aA i hi g).2 (k2 i hi f)⟩, fun j hj g => ⟨(hP'.b0 j hj g).1, fun f => (hP'.b0 j hj g).2 (k3 j hj f)⟩, hP'.fe, k4, hP'.bA⟩, k5⟩, .inl e⟩
  · obtain ⟨k1, k2, k3⟩ := h4 p e
    exact ⟨.inl ⟨p, e, k3⟩, .inr ⟨p, e, k2⟩⟩
end
end Go.Proofs.Ytajpngnphbdnnaa.Hung
namespace Go.Proofs.Ytajpngnphbdnnaa.Abs
set_option linter.unusedSimpArgs false
set_option linter.unusedVariables false
open Go.RowKit
open Go.Proofs.Ytajpngnphbdnnaa.Sim
open Go.Proofs
open Hung
theorem tab_snoc (o : Nat → Int) (i : Nat) : tab o (i + 1) = tab o i ++ [o i] := by simp [tab, List.range_succ]
end Go.Proofs.Ytajpngnphbdnnaa.Abs
namespace Go.Proofs.Ytajpngnphbdnnaa.Hung
set_option linter.unusedSimpArgs false
set_option linter.unusedVariables false
/-- How many of the first n. -/
def cN (p : Nat → Bool) : Nat → Nat
  | 0 => 0
  | n + 1 => cN p n + if p n = true then 1 else 0
theorem cN_filter (p : Nat → Bool) : ∀ n, cN p n = ((List.range n).filter p).length
  | 0 => rfl
  | n + 1 => by
    rw [List.range_succ, List.filter_append, List.length_append, ← cN_filter p n, cN]
    cases h : p n <;> simp [h]
theorem cN_mono {p q : Nat → Bool} : ∀ {n : Nat}, (∀ j, j < n → p j = true → q j = true) → cN p n ≤ cN q n
  | 0, _ => Nat.le_refl _
  | n + 1, h => by
    have := cN_mono (n := n) fun j hj => h j (by omega)
    have := h n (by omega)
    simp only [cN]
    cases hp : p n <;> cases hq : q n <;> simp_all <;> omega
theorem cN_congr {p q : Nat → Bool} {n : Nat} (h : ∀ j, j < n → p j = q j) : cN p n = cN q n :=
  Nat.le_antisymm (cN_mono fun j hj hp => by rw [← h j hj]; exact hp) (cN_mono fun j hj hp => by rw [h j hj]; exact hp)
theorem cN_one {p q : Nat → Bool} {j0 : Nat} (hp : p j0 = false) (hq : q j0 = true) (h : ∀ j, j ≠ j0 → q j = p j) : ∀ {n : Nat}, j0 < n → cN q n = cN p n + 1
  | 0, h0 => by omega
  | n + 1, h0 => by
    simp only [cN]
    by_cases e : j0 = n
    · subst e
      rw [hp, hq, cN_congr (p := q) (q := p) fun j hj => h j (by omega)]; simp
    · rw [cN_one hp hq h (n := n) (by omega), h n (by omega)]; omega
theorem cN_inj {p q : Nat → Bool} {n m : Nat} (φ : Nat → Nat) (h1 : ∀ j, j < n → p j = true → φ j < m ∧ q (φ j) = true) (h2 : ∀ j j', j < n → j' < n → p j = true → p j' = true → φ j = φ j' → j = j') : cN p n ≤ cN q m := by
  rw [cN_filter, cN_filter]
  have hn : (((List.range n).filter p).map φ).Nodup := by
    unfold List.Nodup
    rw [List.pairwise_map]
    refine List.Pairwise.imp_of_mem ?_ (List.nodup_range.filter p : ((List.range n).filter p).Nodup)
    intro a b ha hb hab e
    rw [List.mem_filter, List.mem_range] at ha hb
    exact hab (h2 a b ha.1 hb.1 ha.2 hb.2 e)
  have := nodup_le hn (k := (List.range m).filter q) fun x hx => by
    rw [List.mem_map] at hx
    obtain ⟨j, hj, rfl⟩ := hx
    rw [List.mem_filter, List.mem_range] at hj ⊢
    exact h1 j hj.1 hj.2
  rwa [List.length_map] at this
abbrev KS := (Nat → Bool) × (Nat → Int)
/-- How many are not seen yet. -/
abbrev unN (s : Nat → Bool) (r : Nat) : Nat := cN (fun j => !s j) r
theorem unN_up {s : Nat → Bool} {j r : Nat} (hj : j < r) (h : s j = false) : unN s r = unN (up s j true) r + 1 :=
  cN_one (j0 := j) (by simp [up_same]) (by simp [h]) (fun k hk => by simp [up_ne _ _ hk]) hj
/-- A way from a left glove to a right one without a partner, and the pairing after it. -/
inductive Pth (ok : Nat → Nat → Bool) (r : Nat) : Nat → (Nat → Bool) → (Nat → Int) → (Nat → Int) → Prop
  | one {i j : Nat} {sn : Nat → Bool} {m : Nat → Int} : j < r → sn j = false → ok i j = true → m j < 0 → Pth ok r i sn m (up m j (i : Int))
  | more {i i2 j : Nat} {sn : Nat → Bool} {m m1 : Nat → Int} : j < r → sn j = false → ok i j = true → m j = (i2 : Nat) → Pth ok r i2 (up sn j true) m m1 → Pth ok r i sn m (up m1 j (i : Int))
/-- A set of right gloves whose partners know none outside it. -/
def Clo (ok : Nat → Nat → Bool) (r : Nat) (m : Nat → Int) (C : Nat → Bool) : Prop := ∀ j, C j = true → j < r ∧ 0 ≤ m j ∧ ∀ j', j' < r → ok (m j).toNat j' = true → C j' = true
theorem Pth.clo {ok : Nat → Nat → Bool} {r i : Nat} {sn : Nat → Bool} {m m' : Nat → Int} {C : Nat → Bool} (h : Pth ok r i sn m m') : Clo ok r m C → (∀ j, C j = true → m' j = m j) ∧ ∃ j, j < r ∧ ok i j = true ∧ C j = false := by
  induction h with
  | @one i j sn m h1 h2 h3 h4 =>
    intro hC
    have hj : C j = false := by
      cases e : C j with
      | false => rfl
      | true => have := (hC j e).2.1; omega
    exact ⟨fun x hx => up_ne _ _ (by rintro rfl; rw [hj] at hx; cases hx), j, h1, h3, hj⟩
  | @more i i2 j sn m m1 h1 h2 h3 h4 _ ih =>
    intro hC
    obtain ⟨a1, j2, a2, a3, a4⟩ := ih hC
    have hj : C j = false := by
      cases e : C j with
      | false => rfl
      | true =>
        have := (hC j e).2.2 j2 a2 (by rw [h4]; simpa using a3)
        rw [a4] at this; cases this
    exact ⟨fun x hx => by rw [up_ne _ _ (by rintro rfl; rw [hj] at hx; cases hx)]; exact a1 x hx, j, h1, h3, hj⟩
structure KInv (ok : Nat → Nat → Bool) (r k : Nat) (m : Nat → Int) (n : Nat) : Prop where
  v : ∀ j, m j = -1 ∨ ∃ i : Nat, m j = (i : Nat) ∧ i < k ∧ j < r ∧ ok i j = true
  inj : ∀ j j', 0 ≤ m j → m j = m j' → j = j'
  cnt : n = cN (fun j => decide (0 ≤ m j)) r
  clo : ∃ C : Nat → Bool, Clo ok r m C ∧ ∀ i, i < k → (∃ j, m j = (i : Nat)) ∨ ∀ j, j < r → ok i j = true → C j = true
/-- A pairing, by right gloves. -/
def Mch (ok : Nat → Nat → Bool) (l r : Nat) (m : Nat → Int) : Prop := (∀ j, j < r → 0 ≤ m j → m j < (l : Nat) ∧ ok (m j).toNat j = true) ∧ ∀ j j', j < r → j' < r → 0 ≤ m j → m j = m j' → j = j'
/-- No pairing is greater. -/
theorem KInv.max {ok : Nat → Nat → Bool} {r l n : Nat} {m μ : Nat → Int} (h : KInv ok r l m n) (hμ : Mch ok l r μ) : cN (fun j => decide (0 ≤ μ j)) r ≤ n := by
  obtain ⟨v, inj, cnt, C, hC, hfr⟩ := h
  rw [cnt]
  have hvr : ∀ j, 0 ≤ m j → j < r := fun j h => by
    rcases v j with h1 | ⟨i, _, _, h2, _⟩
    · omega
    · exact h2
  have key : ∀ j, j < r → 0 ≤ μ j → ∃ x, x < r ∧ 0 ≤ m x ∧ (C j = true → x = j) ∧ (C j = false → C x = false ∧ m x = μ j) := fun j hj h0 => by
    obtain ⟨k1, k2⟩ := hμ.1 j hj h0
    cases e : C j with
    | true =>
      obtain ⟨_, c2, _⟩ := hC j e
      exact ⟨j, hj, c2, fun _ => rfl, fun h => by cases h⟩
    | false =>
      rcases hfr (μ j).toNat (by omega) with ⟨x, hx⟩ | hx
      · refine ⟨x, hvr x (by omega), by omega, fun h => (by cases h), fun _ => ⟨?_, by omega⟩⟩
        cases ex : C x with
        | false => rfl
        | true =>
          have := (hC x ex).2.2 j hj (by rw [hx, Int.toNat_natCast]; exact k2)
          rw [e] at this; cases this
      · have := hx j hj k2
        rw [e] at this; cases this
  refine cN_inj (fun j => if h : j < r ∧ 0 ≤ μ j then (key j h.1 h.2).choose else 0) (fun j hj hp => ?_) (fun j j' hj hj' hp hp' he => ?_)
  · have h0 : 0 ≤ μ j := by simpa using hp
    rw [dif_pos ⟨hj, h0⟩]
    have := (key j hj h0).choose_spec
    exact ⟨this.1, by simpa using this.2.1⟩
  · have h0 : 0 ≤ μ j := by simpa using hp
    have h0' : 0 ≤ μ j' := by simpa using hp'
    rw [dif_pos ⟨hj, h0⟩, dif_pos ⟨hj', h0'⟩] at he
    obtain ⟨_, _, a1, a2⟩ := (key j hj h0).choose_spec
    obtain ⟨_, _, b1, b2⟩ := (key j' hj' h0').choose_spec
    rw [he] at a1 a2
    cases e : C j with
    | true =>
      cases e' : C j' with
      | true => rw [← a1 e, b1 e']
      | false =>
        have := (b2 e').1
        rw [a1 e, e] at this; cases this
    | false =>
      cases e' : C j' with
      | true =>
        have := (a2 e).1
        rw [b1 e', e'] at this; cases this
      | false => exact hμ.2 j j' hj hj' h0 (by rw [← (a2 e).2, (b2 e').2])
end Go.Proofs.Ytajpngnphbdnnaa.Hung
namespace Go.Proofs.Ytajpngnphbdnnaa.Abs
set_option linter.unusedSimpArgs false
set_option linter.unusedVariables false
open Go.RowKit
open Go.Proofs.Ytajpngnphbdnnaa.Sim
open Go.Proofs
open Hung
/-- The memory in which block p holds what is seen and block q who is paired. -/
def KM (m : AM) (p q r : Nat) (s : KS) : AM := (m.set p (some { cells := bv (tabB s.1 r) })).set q (some { cells := iv (tab s.2 r) })
section
variable {m : AM} {p q r : Nat} {s : KS}
theorem KM.len : (KM m p q r s).length = m.length := by simp [KM]
end
section
variable {P : Program} {nt : Nat} {ops : Array Oper} {t : Fm} {m : AM} {K : Fm → AM → Prop} {T : Nat} {pp : String} {af : Array Edge}
end
theorem KM.app {m : AM} {r : Nat} {x y : Option Blk} {s : KS} : KM (m ++ [x, y]) (m.length + 1) (m.length + 0) r s = m ++ [some { cells := iv (tab s.2 r) }, some { cells := bv (tabB s.1 r) }] := by
  unfold KM
  rw [List.set_append_right _ _ (by omega), List.set_append_right _ _ (by omega)]
  simp
end Go.Proofs.Ytajpngnphbdnnaa.Abs
namespace Go.Proofs.Ytajpngnphbdnnaa.Abs
set_option linter.unusedSimpArgs false
set_option linter.unusedVariables false
open Go.RowKit
open Go.Proofs.Ytajpngnphbdnnaa.Sim
open Go.Proofs
open Hung
section
variable {m : AM} {p q r : Nat} {s : KS}
theorem KM.self (h1 : m[p]? = some (some { cells := bv (tabB s.1 r) })) (h2 : m[q]? = some (some { cells := iv (tab s.2 r) })) : KM m p q r s = m := by
  have e : ∀ {a : Nat} {x : Option Blk}, m[a]? = some x → m.set a x = m := fun {a x} h => by
    apply List.ext_getElem?
    intro i
    by_cases e : i = a
    · subst e; rw [List.getElem?_set_self (List.getElem?_eq_some_iff.1 h).1, h]
    · rw [List.getElem?_set_ne (Ne.symm e)]
  unfold KM
  rw [e h1, e h2]
theorem KM.ne {a : Nat} (h1 : a ≠ p) (h2 : a ≠ q) : (KM m p q r s)[a]? = m[a]? := by
  unfold KM
  rw [List.getElem?_set_ne (Ne.symm h2), List.getElem?_set_ne (Ne.symm h1)]
theorem KM.pre {N : AM} (h1 : m.length ≤ p) (h2 : m.length ≤ q) : ∃ N', KM (m ++ N) p q r s = m ++ N' := by
  unfold KM
  obtain ⟨N1, e1⟩ := pre_set (m := m) (N := N) (p := p) (x := some { cells := bv (tabB s.1 r) }) h1
  rw [e1]
  exact pre_set h2
end
section
variable {P : Program} {nt : Nat} {ops : Array Oper} {t : Fm} {m : AM} {K : Fm → AM → Prop} {T : Nat} {pp : String} {af : Array Edge}
end
end Go.Proofs.Ytajpngnphbdnnaa.Abs
namespace Go.Proofs.Ytajpngnphbdnnaa.Hung
set_option linter.unusedSimpArgs false
set_option linter.unusedVariables false
abbrev RS := (Nat → Bool) × (Nat → Bool)
end Go.Proofs.Ytajpngnphbdnnaa.Hung
namespace Go.Proofs.Ytajpngnphbdnnaa.Abs
set_option linter.unusedSimpArgs false
set_option linter.unusedVariables false
open Go.RowKit
open Go.Proofs.Ytajpngnphbdnnaa.Sim
open Go.Proofs
open Hung
/-- The memory in which blocks p and q hold which gloves are reached. -/
def RM (m : AM) (p q l r : Nat) (s : RS) : AM := (m.set p (some { cells := bv (tabB s.1 l) })).set q (some { cells := bv (tabB s.2 r) })
section
variable {m : AM} {p q l r : Nat} {s : RS}
theorem RM.len : (RM m p q l r s).length = m.length := by simp [RM]
theorem RM.self (h1 : m[p]? = some (some { cells := bv (tabB s.1 l) })) (h2 : m[q]? = some (some { cells := bv (tabB s.2 r) })) : RM m p q l r s = m := by
  have e : ∀ {a : Nat} {x : Option Blk}, m[a]? = some x → m.set a x = m := fun {a x} h => by
    apply List.ext_getElem?
    intro i
    by_cases e : i = a
    · subst e; rw [List.getElem?_set_self (List.getElem?_eq_some_iff.1 h).1, h]
    · rw [List.getElem?_set_ne (Ne.symm e)]
  unfold RM
  rw [e h1, e h2]
theorem RM.ne {a : Nat} (h1 : a ≠ p) (h2 : a ≠ q) : (RM m p q l r s)[a]? = m[a]? := by
  unfold RM
  rw [List.getElem?_set_ne (Ne.symm h2), List.getElem?_set_ne (Ne.symm h1)]
theorem RM.pre {N : AM} (h1 : m.length ≤ p) (h2 : m.length ≤ q) : ∃ N', RM (m ++ N) p q l r s = m ++ N' := by
  unfold RM
  obtain ⟨N1, e1⟩ := pre_set (m := m) (N := N) (p := p) (x := some { cells := bv (tabB s.1 l) }) h1
  rw [e1]
  exact pre_set h2
end
section
variable {P : Program} {nt : Nat} {ops : Array Oper} {t : Fm} {m : AM} {K : Fm → AM → Prop} {T : Nat} {pp : String} {af : Array Edge}
end
end Go.Proofs.Ytajpngnphbdnnaa.Abs
namespace Go.Proofs.Ytajpngnphbdnnaa.Abs
set_option linter.unusedSimpArgs false
set_option linter.unusedVariables false
open Go.RowKit
open Go.Proofs.Ytajpngnphbdnnaa.Sim
open Go.Proofs
open Hung
/-- The numbers below n of which g says yes. -/
def selL (g : Nat → Bool) (n : Nat) : List Int := nats ((List.range n).filter g)
theorem selL_no {g : Nat → Bool} {n : Nat} (h : g n = false) : selL g (n + 1) = selL g n := by
  unfold selL nats; rw [List.range_succ, List.filter_append]; simp [h]
theorem ints_gb {M L : AM} {k n : Nat} {l : List Int} (h : L[k]? = some (gb (iv l) 1)) (hn : n = l.length) (hM : 0 < (M ++ L).length) : Ints (M ++ L) (gv (M.length + k) n) l := by
  subst hn
  cases l with
  | nil => exact ints_nil hM
  | cons x l =>
    rw [gb_pos (by simp [iv])] at h
    rw [gv_pos (by simp)]
    exact ints_new h rfl _ rfl
/-- Blocks that lie somewhere, apart from each other. -/
structure Mz (n : Nat) (B : AM) (A : Nat → Bool) (ct : Nat → List Value) (p : Nat → Nat) (m : AM) : Prop where
  pre : ∃ N, m = B ++ N
  ar : ∀ k, k < n → A k = true → B.length ≤ p k ∧ m[p k]? = some (some { cells := ct k })
  dj : ∀ j k, j < n → k < n → A j = true → A k = true → p j = p k → j = k
section
variable {n : Nat} {B : AM} {A A' : Nat → Bool} {ct ct' : Nat → List Value} {p p' : Nat → Nat} {m : AM}
theorem Mz.congr (h : Mz n B A ct p m) (hA : ∀ k, k < n → A' k = A k) (hc : ∀ k, k < n → A k = true → ct' k = ct k) : Mz n B A' ct' p m :=
  ⟨h.pre, fun k hk ha => by rw [hA k hk] at ha; rw [hc k hk ha]; exact h.ar k hk ha, fun j k hj hk h1 h2 => h.dj j k hj hk (by rw [← hA j hj]; exact h1) (by rw [← hA k hk]; exact h2)⟩
theorem Mz.new (h : Mz n B A ct p m) {k : Nat} (z : List Value) (ha : A k = false) : Mz n B (upL A k) (up ct k z) (up p k m.length) (m ++ [some { cells := z }]) := by
  have hlt : ∀ j, j < n → A j = true → p j < m.length := fun j hj h1 => (List.getElem?_eq_some_iff.1 (h.ar j hj h1).2).1
  obtain ⟨N, hN⟩ := h.pre
  refine ⟨⟨N ++ [some { cells := z }], by rw [hN, List.append_assoc]⟩, fun j hj haj => ?_, fun i j hi hj hai haj e => ?_⟩
  · by_cases e : j = k
    · subst e
      rw [up_same, up_same]
      exact ⟨by rw [hN]; simp, by simp⟩
    · rw [upL_ne A e] at haj
      rw [up_ne _ _ e, up_ne _ _ e]
      exact ⟨(h.ar j hj haj).1, get_old _ (h.ar j hj haj).2⟩
  · by_cases e1 : i = k
    · by_cases e2 : j = k
      · rw [e1, e2]
      · rw [upL_ne A e2] at haj
        rw [e1, up_same, up_ne _ _ e2] at e
        have := hlt j hj haj; omega
    · rw [upL_ne A e1] at hai
      by_cases e2 : j = k
      · rw [e2, up_same, up_ne _ _ e1] at e
        have := hlt i hi hai; omega
      · rw [upL_ne A e2] at haj
        rw [up_ne _ _ e1, up_ne _ _ e2] at e
        exact h.dj i j hi hj hai haj e
theorem Mz.store (h : Mz n B A ct p m) {k : Nat} (c : List Value) (hk : k < n) (ha : A k = true) : Mz n B A (up ct k c) p (m.set (p k) (some { cells := c })) := by
  have hlt := (List.getElem?_eq_some_iff.1 (h.ar k hk ha).2).1
  have hge := (h.ar k hk ha).1
  obtain ⟨N, hN⟩ := h.pre
  refine ⟨⟨N.set (p k - B.length) (some { cells := c }), by rw [hN, List.set_append_right _ _ hge]⟩, fun j hj haj => ⟨(h.ar j hj haj).1, ?_⟩, h.dj⟩
  by_cases e : j = k
  · subst e
    rw [up_same, List.getElem?_set_self hlt]
  · rw [up_ne _ _ e, List.getElem?_set_ne fun q => e (h.dj j k hj hk haj ha q.symm)]
    exact (h.ar j hj haj).2
end
end Go.Proofs.Ytajpngnphbdnnaa.Abs
namespace Go.Proofs.Ytajpngnphbdnnaa.Abs
set_option linter.unusedSimpArgs false
set_option linter.unusedVariables false
open Go.RowKit
open Go.Proofs.Ytajpngnphbdnnaa.Sim
open Go.Proofs
open Hung
/-- A glove prefers a partner to another one: cost and index of both; below 0: none. -/
def prf (a j b k : Int) : Bool := decide (0 ≤ a) && (decide (k < 0) || (decide (b < 0) || (decide (a < b) || (decide (a = b) && decide (j < k)))))
set_option maxRecDepth 100000 in
theorem prefers_ok {m : AM} {a j b k : Int} : ACall Try.prog 71 #[.int .i64 a, .int .i64 j, .int .i64 b, .int .i64 k] m (Ret (.bool (prf a j b k)) m) := by
  refine ACall.start Try.func71 rfl rfl ?_
  by_cases h1 : a < 0
  · (repeat (first | (with_reducible refine AWo.cons ?_) | ((with_reducible refine Step.id ?_); first | ((with_reducible apply Step.move); exact rfl; exact rfl) | ((with_reducible apply Step.assign); exact rfl; exact rfl) | ((with_reducible apply Step.lss); exact rfl; exact rfl; exact rfl)) | (with_reducible refine AWo.nil ?_) | ((with_reducible apply AW.seq)) | ((with_reducible apply Then.n)) | ((with_reducible apply AW.regL)) | ((with_reducible apply AW.condT); exact rfl; (focus ((simp only [decide_eq_true_eq, decide_eq_false_iff_not, Bool.not_eq_true', Bool.not_eq_false', Bool.not_true, Bool.not_false]; first | assumption | omega))))))
    (refine AW.retD (l := [(8, _)]) (by repeat (first | exact trivial | (refine And.intro ⟨rfl, by (exact .bool _)⟩ ?_))) ?_; (repeat (first | refine Then.r ?_ | refine InBlk.r ?_)))
    exact ⟨_, rfl, by simp [prf]; omega, rfl⟩
  by_cases h2 : k < 0
  · (repeat (first | (with_reducible refine AWo.cons ?_) | ((with_reducible refine Step.id ?_); first | ((with_reducible apply Step.gdU); exact rfl; exact rfl) | ((with_reducible apply Step.gdF); exact rfl; exact rfl; (focus (first | rfl | (simp only [decide_eq_true_eq, decide_eq_false_iff_not, Bool.not_eq_true', Bool.not_eq_false', Bool.not_true, Bool.not_false]; first | assumption | omega)))) | ((with_reducible apply Step.move); exact rfl; exact rfl) | ((with_reducible apply Step.assign); exact rfl; exact rfl) | ((with_reducible apply Step.lss); exact rfl; exact rfl; exact rfl) | ((with_reducible apply Step.pickT); exact rfl; exact rfl; exact rfl; exact rfl; (focus (first | rfl | (simp only [decide_eq_true_eq, decide_eq_false_iff_not, Bool.not_eq_true', Bool.not_eq_false', Bool.not_true, Bool.not_false]; first | assumption | omega))))) | (with_reducible refine AWo.nil ?_) | ((with_reducible apply AW.seq)) | ((with_reducible apply Then.n)) | ((with_reducible apply AW.regL)) | ((with_reducible apply AW.skip)) | ((with_reducible apply AW.condF); exact rfl; (focus ((simp only [decide_eq_true_eq, decide_eq_false_iff_not, Bool.not_eq_true', Bool.not_eq_false', Bool.not_true, Bool.not_false]; first | assumption | omega))))))
    (refine AW.retD (l := [(8, _)]) (by repeat (first | exact trivial | (refine And.intro ⟨rfl, by (exact .bool _)⟩ ?_))) ?_; (repeat (first | refine Then.r ?_ | refine InBlk.r ?_)))
    exact ⟨_, rfl, by simp [prf]; omega, rfl⟩
  by_cases h3 : b < 0
  · (repeat (first | (with_reducible refine AWo.cons ?_) | ((with_reducible refine Step.id ?_); first | ((with_reducible apply Step.gdU); exact rfl; exact rfl) | ((with_reducible apply Step.gdT); exact rfl; exact rfl; (focus ((simp only [decide_eq_true_eq, decide_eq_false_iff_not, Bool.not_eq_true', Bool.not_eq_false', Bool.not_true, Bool.not_false]; first | assumption | omega)))) | ((with_reducible apply Step.gdF); exact rfl; exact rfl; (focus (first | rfl | (simp only [decide_eq_true_eq, decide_eq_false_iff_not, Bool.not_eq_true', Bool.not_eq_false', Bool.not_true, Bool.not_false]; first | assumption | omega)))) | ((with_reducible apply Step.move); exact rfl; exact rfl) | ((with_reducible apply Step.assign); exact rfl; exact rfl) | ((with_reducible apply Step.lss); exact rfl; exact rfl; exact rfl) | ((with_reducible apply Step.pickT); exact rfl; exact rfl; exact rfl; exact rfl; (focus (first | rfl | (simp only [decide_eq_true_eq, decide_eq_false_iff_not, Bool.not_eq_true', Bool.not_eq_false', Bool.not_true, Bool.not_false]; first | assumption | omega)))) | ((with_reducible apply Step.pickF); exact rfl; exact rfl; exact rfl; exact rfl; (focus ((simp only [decide_eq_true_eq, decide_eq_false_iff_not, Bool.not_eq_true', Bool.not_eq_false', Bool.not_true, Bool.not_false]; first | assumption | omega))))) | (with_reducible refine AWo.nil ?_) | ((with_reducible apply AW.seq)) | ((with_reducible apply Then.n)) | ((with_reducible apply AW.regL)) | ((with_reducible apply AW.skip)) | ((with_reducible apply AW.condF); exact rfl; (focus ((simp only [decide_eq_true_eq, decide_eq_false_iff_not, Bool.not_eq_true', Bool.not_eq_false', Bool.not_true, Bool.not_false]; first | assumption | omega))))))
    (refine AW.retD (l := [(8, _)]) (by repeat (first | exact trivial | (refine And.intro ⟨rfl, by (exact .bool _)⟩ ?_))) ?_; (repeat (first | refine Then.r ?_ | refine InBlk.r ?_)))
    exact ⟨_, rfl, by simp [prf]; omega, rfl⟩
  by_cases h4 : a < b
  · (repeat (first | (with_reducible refine AWo.cons ?_) | ((with_reducible refine Step.id ?_); first | ((with_reducible apply Step.gdU); exact rfl; exact rfl) | ((with_reducible apply Step.gdT); exact rfl; exact rfl; (focus ((simp only [decide_eq_true_eq, decide_eq_false_iff_not, Bool.not_eq_true', Bool.not_eq_false', Bool.not_true, Bool.not_false]; first | assumption | omega)))) | ((with_reducible apply Step.gdF); exact rfl; exact rfl; (focus ((simp only [decide_eq_true_eq, decide_eq_false_iff_not, Bool.not_eq_true', Bool.not_eq_false', Bool.not_true, Bool.not_false]; first | assumption | omega)))) | ((with_reducible apply Step.move); exact rfl; exact rfl) | ((with_reducible apply Step.assign); exact rfl; exact rfl) | ((with_reducible apply Step.lss); exact rfl; exact rfl; exact rfl) | ((with_reducible apply Step.pickT); exact rfl; exact rfl; exact rfl; exact rfl; (focus ((simp only [decide_eq_true_eq, decide_eq_false_iff_not, Bool.not_eq_true', Bool.not_eq_false', Bool.not_true, Bool.not_false]; first | assumption | omega)))) | ((with_reducible apply Step.pickF); exact rfl; exact rfl; exact rfl; exact rfl; (focus ((simp only [decide_eq_true_eq, decide_eq_false_iff_not, Bool.not_eq_true', Bool.not_eq_false', Bool.not_true, Bool.not_false]; first | assumption | omega))))) | (with_reducible refine AWo.nil ?_) | ((with_reducible apply AW.seq)) | ((with_reducible apply Then.n)) | ((with_reducible apply AW.regL)) | ((with_reducible apply AW.skip)) | ((with_reducible apply AW.condF); exact rfl; (focus ((simp only [decide_eq_true_eq, decide_eq_false_iff_not, Bool.not_eq_true', Bool.not_eq_false', Bool.not_true, Bool.not_false]; first | assumption | omega))))))
    (refine AW.retD (l := [(8, _)]) (by repeat (first | exact trivial | (refine And.intro ⟨rfl, by (exact .bool _)⟩ ?_))) ?_; (repeat (first | refine Then.r ?_ | refine InBlk.r ?_)))
    exact ⟨_, rfl, by simp [prf]; omega, rfl⟩
  by_cases h5 : a = b
  · by_cases h6 : j < k
    · (repeat (first | (with_reducible refine AWo.cons ?_) | ((with_reducible refine Step.id ?_); first | ((with_reducible apply Step.gdT); exact rfl; exact rfl; (focus ((simp only [decide_eq_true_eq, decide_eq_false_iff_not, Bool.not_eq_true', Bool.not_eq_false', Bool.not_true, Bool.not_false]; first | assumption | omega)))) | ((with_reducible apply Step.move); exact rfl; exact rfl) | ((with_reducible apply Step.assign); exact rfl; exact rfl) | ((with_reducible apply Step.lss); exact rfl; exact rfl; exact rfl) | ((with_reducible apply Step.eql); exact rfl; exact rfl; exact rfl) | ((with_reducible apply Step.pickT); exact rfl; exact rfl; exact rfl; exact rfl; (focus ((simp only [decide_eq_true_eq, decide_eq_false_iff_not, Bool.not_eq_true', Bool.not_eq_false', Bool.not_true, Bool.not_false]; first | assumption | omega)))) | ((with_reducible apply Step.pickF); exact rfl; exact rfl; exact rfl; exact rfl; (focus ((simp only [decide_eq_true_eq, decide_eq_false_iff_not, Bool.not_eq_true', Bool.not_eq_false', Bool.not_true, Bool.not_false]; first | assumption | omega))))) | (with_reducible refine AWo.nil ?_) | ((with_reducible apply AW.seq)) | ((with_reducible apply Then.n)) | ((with_reducible apply AW.regL)) | ((with_reducible apply AW.skip)) | ((with_reducible apply AW.condF); exact rfl; (focus ((simp only [decide_eq_true_eq, decide_eq_false_iff_not, Bool.not_eq_true', Bool.not_eq_false', Bool.not_true, Bool.not_false]; first | assumption | omega))))))
      (refine AW.retD (l := [(8, _)]) (by repeat (first | exact trivial | (refine And.intro ⟨rfl, by (exact .bool _)⟩ ?_))) ?_; (repeat (first | refine Then.r ?_ | refine InBlk.r ?_)))
      exact ⟨_, rfl, by unfold prf; rw [decide_eq_true (p := 0 ≤ a) (by omega), decide_eq_false (p := k < 0) (by omega), decide_eq_false (p := b < 0) (by omega), decide_eq_false (p := a < b) (by omega), decide_eq_true (p := a = b) h5, decide_eq_true (p := j < k) h6]; first | rfl | simp, rfl⟩
    · (repeat (first | (with_reducible refine AWo.cons ?_) | ((with_reducible refine Step.id ?_); first | ((with_reducible apply Step.gdT); exact rfl; exact rfl; (focus ((simp only [decide_eq_true_eq, decide_eq_false_iff_not, Bool.not_eq_true', Bool.not_eq_false', Bool.not_true, Bool.not_false]; first | assumption | omega)))) | ((with_reducible apply Step.move); exact rfl; exact rfl) | ((with_reducible apply Step.assign); exact rfl; exact rfl) | ((with_reducible apply Step.lss); exact rfl; exact rfl; exact rfl) | ((with_reducible apply Step.eql); exact rfl; exact rfl; exact rfl) | ((with_reducible apply Step.pickT); exact rfl; exact rfl; exact rfl; exact rfl; (focus ((simp only [decide_eq_true_eq, decide_eq_false_iff_not, Bool.not_eq_true', Bool.not_eq_false', Bool.not_true, Bool.not_false]; first | assumption | omega)))) | ((with_reducible apply Step.pickF); exact rfl; exact rfl; exact rfl; exact rfl; (focus ((simp only [decide_eq_true_eq, decide_eq_false_iff_not, Bool.not_eq_true', Bool.not_eq_false', Bool.not_true, Bool.not_false]; first | assumption | omega))))) | (with_reducible refine AWo.nil ?_) | ((with_reducible apply AW.seq)) | ((with_reducible apply Then.n)) | ((with_reducible apply AW.regL)) | ((with_reducible apply AW.skip)) | ((with_reducible apply AW.condF); exact rfl; (focus ((simp only [decide_eq_true_eq, decide_eq_false_iff_not, Bool.not_eq_true', Bool.not_eq_false', Bool.not_true, Bool.not_false]; first | assumption | omega))))))
      (refine AW.retD (l := [(8, _)]) (by repeat (first | exact trivial | (refine And.intro ⟨rfl, by (exact .bool _)⟩ ?_))) ?_; (repeat (first | refine Then.r ?_ | refine InBlk.r ?_)))
      exact ⟨_, rfl, by unfold prf; rw [decide_eq_true (p := 0 ≤ a) (by omega), decide_eq_false (p := k < 0) (by omega), decide_eq_false (p := b < 0) (by omega), decide_eq_false (p := a < b) (by omega), decide_eq_true (p := a = b) h5, decide_eq_false (p := j < k) h6]; first | rfl | simp, rfl⟩
  · (repeat (first | (with_reducible refine AWo.cons ?_) | ((with_reducible refine Step.id ?_); first | ((with_reducible apply Step.gdT); exact rfl; exact rfl; (focus ((simp only [decide_eq_true_eq, decide_eq_false_iff_not, Bool.not_eq_true', Bool.not_eq_false', Bool.not_true, Bool.not_false]; first | assumption | omega)))) | ((with_reducible apply Step.gdF); exact rfl; exact rfl; (focus ((simp only [decide_eq_true_eq, decide_eq_false_iff_not, Bool.not_eq_true', Bool.not_eq_false', Bool.not_true, Bool.not_false]; first | assumption | omega)))) | ((with_reducible apply Step.move); exact rfl; exact rfl) | ((with_reducible apply Step.assign); exact rfl; exact rfl) | ((with_reducible apply Step.lss); exact rfl; exact rfl; exact rfl) | ((with_reducible apply Step.eql); exact rfl; exact rfl; exact rfl) | ((with_reducible apply Step.pickF); exact rfl; exact rfl; exact rfl; exact rfl; (focus ((simp only [decide_eq_true_eq, decide_eq_false_iff_not, Bool.not_eq_true', Bool.not_eq_false', Bool.not_true, Bool.not_false]; first | assumption | omega))))) | (with_reducible refine AWo.nil ?_) | ((with_reducible apply AW.seq)) | ((with_reducible apply Then.n)) | ((with_reducible apply AW.regL)) | ((with_reducible apply AW.skip)) | ((with_reducible apply AW.condF); exact rfl; (focus ((simp only [decide_eq_true_eq, decide_eq_false_iff_not, Bool.not_eq_true', Bool.not_eq_false', Bool.not_true, Bool.not_false]; first | assumption | omega))))))
    (refine AW.retD (l := [(8, _)]) (by repeat (first | exact trivial | (refine And.intro ⟨rfl, by (exact .bool _)⟩ ?_))) ?_; (repeat (first | refine Then.r ?_ | refine InBlk.r ?_)))
    exact ⟨_, rfl, by simp [prf]; omega, rfl⟩
/-- What a row says of a partner. -/
def vI (c : Nat → Int) (k : Int) : Int := if 0 ≤ k then c k.toNat else -1
set_option maxHeartbeats 1000000 in
set_option maxRecDepth 100000 in
theorem rather_ok {m : AM} {v : Value} {c : Nat → Int} {n j : Nat} {k : Int} (h : Ints m v (tab c n)) (hj : j < n) (hk : k < (n : Nat)) : ACall Try.prog 72 #[v, .int .i64 (j : Nat), .int .i64 k] m (Ret (.bool (prf (c j) j (vI c k) k)) m) := by
  obtain ⟨a, o, h1, h2, h3⟩ := id h
  rw [tab_len] at h1 h3
  have q1 := h3 j hj
  rw [tab_get c hj] at q1
  refine ACall.start Try.func72 rfl rfl ?_
  by_cases e1 : c j < 0
  · (repeat (first | (with_reducible refine AWo.cons ?_) | ((with_reducible refine Step.id ?_); first | ((with_reducible apply Step.gdU); exact rfl; exact rfl) | ((with_reducible apply Step.gdF); exact rfl; exact rfl; (focus ((simp only [decide_eq_true_eq, decide_eq_false_iff_not, Bool.not_eq_true', Bool.not_eq_false', Bool.not_true, Bool.not_false]; first | assumption | omega)))) | ((with_reducible apply Step.move); exact rfl; exact rfl) | ((with_reducible apply Step.assign); exact rfl; exact rfl) | ((with_reducible apply Step.load); exact rfl; (focus (decide +kernel)); exact rfl; (focus (exact q1.old _))) | ((with_reducible apply Step.ix1); exact rfl; (focus (assumption)); exact rfl; (focus (decide +kernel)); exact rfl; (focus (omega))) | ((with_reducible apply Step.geq); exact rfl; exact rfl; exact rfl) | ((with_reducible apply Step.pickF); exact rfl; exact rfl; exact rfl; exact rfl; (focus ((simp only [decide_eq_true_eq, decide_eq_false_iff_not, Bool.not_eq_true', Bool.not_eq_false', Bool.not_true, Bool.not_false]; first | assumption | omega))))) | (with_reducible refine AWo.nil ?_) | ((with_reducible apply AW.seq)) | ((with_reducible apply Then.n)) | ((with_reducible apply AW.regL)) | ((with_reducible apply AW.drawL fit); (focus (decide +kernel)))))
    (refine AW.retD (l := [(6, _)]) (by repeat (first | exact trivial | (refine And.intro ⟨rfl, by (exact .bool _)⟩ ?_))) ?_; (repeat (first | refine Then.r ?_ | refine InBlk.r ?_)))
    exact ⟨_, rfl, by simp [prf]; omega, rfl⟩
  by_cases e2 : k < 0
  · (repeat (first | (with_reducible refine AWo.cons ?_) | ((with_reducible refine Step.id ?_); first | ((with_reducible apply Step.gdU); exact rfl; exact rfl) | ((with_reducible apply Step.gdT); exact rfl; exact rfl; (focus ((simp only [decide_eq_true_eq, decide_eq_false_iff_not, Bool.not_eq_true', Bool.not_eq_false', Bool.not_true, Bool.not_false]; first | assumption | omega)))) | ((with_reducible apply Step.gdF); exact rfl; exact rfl; (focus (first | rfl | (simp only [decide_eq_true_eq, decide_eq_false_iff_not, Bool.not_eq_true', Bool.not_eq_false', Bool.not_true, Bool.not_false]; first | assumption | omega)))) | ((with_reducible apply Step.move); exact rfl; exact rfl) | ((with_reducible apply Step.assign); exact rfl; exact rfl) | ((with_reducible apply Step.load); exact rfl; (focus (decide +kernel)); exact rfl; (focus (exact q1.old _))) | ((with_reducible apply Step.ix1); exact rfl; (focus (assumption)); exact rfl; (focus (decide +kernel)); exact rfl; (focus (omega))) | ((with_reducible apply Step.lss); exact rfl; exact rfl; exact rfl) | ((with_reducible apply Step.geq); exact rfl; exact rfl; exact rfl) | ((with_reducible apply Step.pickT); exact rfl; exact rfl; exact rfl; exact rfl; (focus (first | rfl | (simp only [decide_eq_true_eq, decide_eq_false_iff_not, Bool.not_eq_true', Bool.not_eq_false', Bool.not_true, Bool.not_false]; first | assumption | omega))))) | (with_reducible refine AWo.nil ?_) | ((with_reducible apply AW.seq)) | ((with_reducible apply Then.n)) | ((with_reducible apply AW.regL)) | ((with_reducible apply AW.drawL fit); (focus (decide +kernel)))))
    (refine AW.retD (l := [(6, _)]) (by repeat (first | exact trivial | (refine And.intro ⟨rfl, by (exact .bool _)⟩ ?_))) ?_; (repeat (first | refine Then.r ?_ | refine InBlk.r ?_)))
    exact ⟨_, rfl, by simp [prf]; omega, rfl⟩
  obtain ⟨k, rfl⟩ := Int.eq_ofNat_of_zero_le (show 0 ≤ k by omega)
  have hk' : k < n := by omega
  have q2 := h3 k hk'
  rw [tab_get c hk'] at q2
  have ev : vI c (k : Int) = c k := by unfold vI; rw [if_pos (by omega)]; simp
  rw [ev]
  by_cases e3 : c k < 0
  · (repeat (first | (with_reducible refine AWo.cons ?_) | ((with_reducible refine Step.id ?_); first | ((with_reducible apply Step.gdU); exact rfl; exact rfl) | ((with_reducible apply Step.gdT); exact rfl; exact rfl; (focus (first | rfl | (simp only [decide_eq_true_eq, decide_eq_false_iff_not, Bool.not_eq_true', Bool.not_eq_false', Bool.not_true, Bool.not_false]; first | assumption | omega)))) | ((with_reducible apply Step.gdF); exact rfl; exact rfl; (focus (first | rfl | (simp only [decide_eq_true_eq, decide_eq_false_iff_not, Bool.not_eq_true', Bool.not_eq_false', Bool.not_true, Bool.not_false]; first | assumption | omega)))) | ((with_reducible apply Step.move); exact rfl; exact rfl) | ((with_reducible apply Step.assign); exact rfl; exact rfl) | ((with_reducible apply Step.load); exact rfl; (focus (decide +kernel)); exact rfl; (focus (first | exact q1.old _ | exact q2.old _))) | ((with_reducible apply Step.ix1); exact rfl; (focus (assumption)); exact rfl; (focus (decide +kernel)); exact rfl; (focus (omega))) | ((with_reducible apply Step.lss); exact rfl; exact rfl; exact rfl) | ((with_reducible apply Step.geq); exact rfl; exact rfl; exact rfl) | ((with_reducible apply Step.pickT); exact rfl; exact rfl; exact rfl; exact rfl; (focus (first | rfl | (simp only [decide_eq_true_eq, decide_eq_false_iff_not, Bool.not_eq_true', Bool.not_eq_false', Bool.not_true, Bool.not_false]; first | assumption | omega)))) | ((with_reducible apply Step.pickF); exact rfl; exact rfl; exact rfl; exact rfl; (focus (rfl)))) | (with_reducible refine AWo.nil ?_) | ((with_reducible apply AW.seq)) | ((with_reducible apply Then.n)) | ((with_reducible apply AW.regL)) | ((with_reducible apply AW.drawL fit); (focus (decide +kernel)))))
    (refine AW.retD (l := [(6, _)]) (by repeat (first | exact trivial | (refine And.intro ⟨rfl, by (exact .bool _)⟩ ?_))) ?_; (repeat (first | refine Then.r ?_ | refine InBlk.r ?_)))
    exact ⟨_, rfl, by simp [prf]; omega, rfl⟩
  by_cases e4 : c j < c k
  · (repeat (first | (with_reducible refine AWo.cons ?_) | ((with_reducible refine Step.id ?_); first | ((with_reducible apply Step.gdU); exact rfl; exact rfl) | ((with_reducible apply Step.gdT); exact rfl; exact rfl; (focus (first | rfl | (simp only [decide_eq_true_eq, decide_eq_false_iff_not, Bool.not_eq_true', Bool.not_eq_false', Bool.not_true, Bool.not_false]; first | assumption | omega)))) | ((with_reducible apply Step.gdF); exact rfl; exact rfl; (focus ((simp only [decide_eq_true_eq, decide_eq_false_iff_not, Bool.not_eq_true', Bool.not_eq_false', Bool.not_true, Bool.not_false]; first | assumption | omega)))) | ((with_reducible apply Step.move); exact rfl; exact rfl) | ((with_reducible apply Step.assign); exact rfl; exact rfl) | ((with_reducible apply Step.load); exact rfl; (focus (decide +kernel)); exact rfl; (focus (first | exact q1.old _ | exact q2.old _))) | ((with_reducible apply Step.ix1); exact rfl; (focus (assumption)); exact rfl; (focus (decide +kernel)); exact rfl; (focus (omega))) | ((with_reducible apply Step.lss); exact rfl; exact rfl; exact rfl) | ((with_reducible apply Step.geq); exact rfl; exact rfl; exact rfl) | ((with_reducible apply Step.pickT); exact rfl; exact rfl; exact rfl; exact rfl; (focus ((simp only [decide_eq_true_eq, decide_eq_false_iff_not, Bool.not_eq_true', Bool.not_eq_false', Bool.not_true, Bool.not_false]; first | assumption | omega)))) | ((with_reducible apply Step.pickF); exact rfl; exact rfl; exact rfl; exact rfl; (focus (first | rfl | (simp only [decide_eq_true_eq, decide_eq_false_iff_not, Bool.not_eq_true', Bool.not_eq_false', Bool.not_true, Bool.not_false]; first | assumption | omega))))) | (with_reducible refine AWo.nil ?_) | ((with_reducible apply AW.seq)) | ((with_reducible apply Then.n)) | ((with_reducible apply AW.regL)) | ((with_reducible apply AW.drawL fit); (focus (decide +kernel)))))
    (refine AW.retD (l := [(6, _)]) (by repeat (first | exact trivial | (refine And.intro ⟨rfl, by (exact .bool _)⟩ ?_))) ?_; (repeat (first | refine Then.r ?_ | refine InBlk.r ?_)))
    exact ⟨_, rfl, by simp [prf]; omega, rfl⟩
  by_cases e5 : c j = c k
  · by_cases e6 : (j : Int) < (k : Int)
    · (repeat (first | (with_reducible refine AWo.cons ?_) | ((with_reducible refine Step.id ?_); first | ((with_reducible apply Step.gdT); exact rfl; exact rfl; (focus (first | rfl | (simp only [decide_eq_true_eq, decide_eq_false_iff_not, Bool.not_eq_true', Bool.not_eq_false', Bool.not_true, Bool.not_false]; first | assumption | omega)))) | ((with_reducible apply Step.move); exact rfl; exact rfl) | ((with_reducible apply Step.assign); exact rfl; exact rfl) | ((with_reducible apply Step.load); exact rfl; (focus (decide +kernel)); exact rfl; (focus (first | exact q1.old _ | exact q2.old _))) | ((with_reducible apply Step.ix1); exact rfl; (focus (assumption)); exact rfl; (focus (decide +kernel)); exact rfl; (focus (omega))) | ((with_reducible apply Step.lss); exact rfl; exact rfl; exact rfl) | ((with_reducible apply Step.geq); exact rfl; exact rfl; exact rfl) | ((with_reducible apply Step.eql); exact rfl; exact rfl; exact rfl) | ((with_reducible apply Step.pickT); exact rfl; exact rfl; exact rfl; exact rfl; (focus ((simp only [decide_eq_true_eq, decide_eq_false_iff_not, Bool.not_eq_true', Bool.not_eq_false', Bool.not_true, Bool.not_false]; first | assumption | omega)))) | ((with_reducible apply Step.pickF); exact rfl; exact rfl; exact rfl; exact rfl; (focus (first | rfl | (simp only [decide_eq_true_eq, decide_eq_false_iff_not, Bool.not_eq_true', Bool.not_eq_false', Bool.not_true, Bool.not_false]; first | assumption | omega))))) | (with_reducible refine AWo.nil ?_) | ((with_reducible apply AW.seq)) | ((with_reducible apply Then.n)) | ((with_reducible apply AW.regL)) | ((with_reducible apply AW.drawL fit); (focus (decide +kernel)))))
      (refine AW.retD (l := [(6, _)]) (by repeat (first | exact trivial | (refine And.intro ⟨rfl, by (exact .bool _)⟩ ?_))) ?_; (repeat (first | refine Then.r ?_ | refine InBlk.r ?_)))
      exact ⟨_, rfl, by unfold prf; rw [decide_eq_true (p := 0 ≤ c j) (by omega), decide_eq_false (p := (k : Int) < 0) (by omega), decide_eq_false (p := c k < 0) (by omega), decide_eq_false (p := c j < c k) (by omega), decide_eq_true (p := c j = c k) e5, decide_eq_true (p := (j : Int) < (k : Int)) e6]; first | rfl | simp, rfl⟩
    · (repeat (first | (with_reducible refine AWo.cons ?_) | ((with_reducible refine Step.id ?_); first | ((with_reducible apply Step.gdT); exact rfl; exact rfl; (focus (first | rfl | (simp only [decide_eq_true_eq, decide_eq_false_iff_not, Bool.not_eq_true', Bool.not_eq_false', Bool.not_true, Bool.not_false]; first | assumption | omega)))) | ((with_reducible apply Step.move); exact rfl; exact rfl) | ((with_reducible apply Step.assign); exact rfl; exact rfl) | ((with_reducible apply Step.load); exact rfl; (focus (decide +kernel)); exact rfl; (focus (first | exact q1.old _ | exact q2.old _))) | ((with_reducible apply Step.ix1); exact rfl; (focus (assumption)); exact rfl; (focus (decide +kernel)); exact rfl; (focus (omega))) | ((with_reducible apply Step.lss); exact rfl; exact rfl; exact rfl) | ((with_reducible apply Step.geq); exact rfl; exact rfl; exact rfl) | ((with_reducible apply Step.eql); exact rfl; exact rfl; exact rfl) | ((with_reducible apply Step.pickT); exact rfl; exact rfl; exact rfl; exact rfl; (focus ((simp only [decide_eq_true_eq, decide_eq_false_iff_not, Bool.not_eq_true', Bool.not_eq_false', Bool.not_true, Bool.not_false]; first | assumption | omega)))) | ((with_reducible apply Step.pickF); exact rfl; exact rfl; exact rfl; exact rfl; (focus (first | rfl | (simp only [decide_eq_true_eq, decide_eq_false_iff_not, Bool.not_eq_true', Bool.not_eq_false', Bool.not_true, Bool.not_false]; first | assumption | omega))))) | (with_reducible refine AWo.nil ?_) | ((with_reducible apply AW.seq)) | ((with_reducible apply Then.n)) | ((with_reducible apply AW.regL)) | ((with_reducible apply AW.drawL fit); (focus (decide +kernel)))))
      (refine AW.retD (l := [(6, _)]) (by repeat (first | exact trivial | (refine And.intro ⟨rfl, by (exact .bool _)⟩ ?_))) ?_; (repeat (first | refine Then.r ?_ | refine InBlk.r ?_)))
      exact ⟨_, rfl, by unfold prf; rw [decide_eq_true (p := 0 ≤ c j) (by omega), decide_eq_false (p := (k : Int) < 0) (by omega), decide_eq_false (p := c k < 0) (by omega), decide_eq_false (p := c j < c k) (by omega), decide_eq_true (p := c j = c k) e5, decide_eq_false (p := (j : Int) < (k : Int)) e6]; first | rfl | simp, rfl⟩
  · (repeat (first | (with_reducible refine AWo.cons ?_) | ((with_reducible refine Step.id ?_); first | ((with_reducible apply Step.gdT); exact rfl; exact rfl; (focus (first | rfl | (simp only [decide_eq_true_eq, decide_eq_false_iff_not, Bool.not_eq_true', Bool.not_eq_false', Bool.not_true, Bool.not_false]; first | assumption | omega)))) | ((with_reducible apply Step.gdF); exact rfl; exact rfl; (focus ((simp only [decide_eq_true_eq, decide_eq_false_iff_not, Bool.not_eq_true', Bool.not_eq_false', Bool.not_true, Bool.not_false]; first | assumption | omega)))) | ((with_reducible apply Step.move); exact rfl; exact rfl) | ((with_reducible apply Step.assign); exact rfl; exact rfl) | ((with_reducible apply Step.load); exact rfl; (focus (decide +kernel)); exact rfl; (focus (first | exact q1.old _ | exact q2.old _))) | ((with_reducible apply Step.ix1); exact rfl; (focus (assumption)); exact rfl; (focus (decide +kernel)); exact rfl; (focus (omega))) | ((with_reducible apply Step.lss); exact rfl; exact rfl; exact rfl) | ((with_reducible apply Step.geq); exact rfl; exact rfl; exact rfl) | ((with_reducible apply Step.eql); exact rfl; exact rfl; exact rfl) | ((with_reducible apply Step.pickT); exact rfl; exact rfl; exact rfl; exact rfl; (focus ((simp only [decide_eq_true_eq, decide_eq_false_iff_not, Bool.not_eq_true', Bool.not_eq_false', Bool.not_true, Bool.not_false]; first | assumption | omega)))) | ((with_reducible apply Step.pickF); exact rfl; exact rfl; exact rfl; exact rfl; (focus (first | rfl | (simp only [decide_eq_true_eq, decide_eq_false_iff_not, Bool.not_eq_true', Bool.not_eq_false', Bool.not_true, Bool.not_false]; first | assumption | omega))))) | (with_reducible refine AWo.nil ?_) | ((with_reducible apply AW.seq)) | ((with_reducible apply Then.n)) | ((with_reducible apply AW.regL)) | ((with_reducible apply AW.drawL fit); (focus (decide +kernel)))))
    (refine AW.retD (l := [(6, _)]) (by repeat (first | exact trivial | (refine And.intro ⟨rfl, by (exact .bool _)⟩ ?_))) ?_; (repeat (first | refine Then.r ?_ | refine InBlk.r ?_)))
    exact ⟨_, rfl, by simp [prf]; omega, rfl⟩
set_option maxHeartbeats 1000000 in
set_option maxRecDepth 100000 in
theorem column_ok {m : AM} {cv : Value} {c : Nat → Nat → Int} {l r j : Nat} (hT : RT m cv c l r) (hj : j < r) (hl : l ≤ 100000) : ACall Try.prog 73 #[cv, .int .i64 (j : Nat)] m (NewG (iv (tab (fun i => c i j) l)) 1 l m) := by
  obtain ⟨cb, co, c1, c2, c3⟩ := id hT
  refine ACall.start Try.func73 rfl rfl ?_
  (repeat (first | (with_reducible refine AWo.cons ?_) | ((with_reducible refine Step.id ?_); first | ((with_reducible apply Step.move); exact rfl; exact rfl) | ((with_reducible apply Step.assign); exact rfl; exact rfl) | ((with_reducible apply Step.len); exact rfl; (focus (assumption)); (focus (decide +kernel)); exact rfl)) | (with_reducible refine AWo.nil ?_) | ((with_reducible apply AW.seq)) | ((with_reducible apply Then.n)) | ((with_reducible apply AW.regL)) | ((with_reducible apply AW.block))))
  refine AW.loopT (fun rk t L => ∃ k : Nat, rk = l - k ∧ k ≤ l ∧ L = [gb (iv (tab (fun i => c i j) k)) 1] ∧ t = [(1, .int .i64 (j : Nat)), (5, gv (m.length + 0) k), (8, cv), (9, .int .i64 (l : Nat)), (10, .int .i64 (k : Nat))])
    ⟨_, _, _, Back.pad (by repeat (first | exact trivial | (refine And.intro ⟨rfl, by (first | exact .int _ _ | exact Ren.of_gv (by first | (simp; done) | omega | (simp; omega)) | exact Ren.of_sl (by assumption) (by first | omega | (simp; omega)))⟩ ?_))) CellsOk.nil, 0, rfl, Nat.zero_le _, rfl, rfl⟩ ?_
  rintro rk t L ⟨k, rfl, hk, rfl, rfl⟩
  rcases Nat.lt_or_ge k l with hlt | hge
  · obtain ⟨w, q1, rb, ro, w1, w2, w3⟩ := c3 k hlt
    rw [tab_len] at w1 w3
    have q5 := w3 j hj
    rw [tab_get (c k) hj] at q5
    have hln : (iv (tab (fun i => c i j) k)).length = k * 1 := by rw [iv_len, tab_len, Nat.mul_one]
    have hg0 : ∀ v ∈ iv (tab (fun i => c i j) k) ++ [Value.int .i64 (c k j)], g0 v = true := fun v hv => by
      rcases List.mem_append.1 hv with h | h
      · exact g0_iv _ v h
      · obtain rfl : v = Value.int .i64 (c k j) := by simpa using h
        rfl
    have ts := tab_snoc (fun i => c i j) k
    (repeat (first | (with_reducible refine AWo.cons ?_) | ((with_reducible refine Step.id ?_); first | ((with_reducible apply Step.move); exact rfl; exact rfl) | ((with_reducible apply Step.assign); exact rfl; exact rfl) | ((with_reducible apply Step.load); exact rfl; (focus (decide +kernel)); exact rfl; (focus (first | exact q1.old _ | exact q5.old _))) | ((with_reducible apply Step.ix1); exact rfl; (focus (assumption)); exact rfl; (focus (decide +kernel)); exact rfl; (focus (omega))) | ((with_reducible apply Step.lss); exact rfl; exact rfl; exact rfl) | ((with_reducible apply Step.buildS 1); exact rfl; exact rfl; exact (fun _ _ => bs27x); exact rfl; (focus (first | (simp only [List.nil_append, List.cons_append, List.set_cons_zero, List.set_cons_succ, iv_set, bv_set, iv_rep, bv_rep]; done) | (simp only [List.nil_append, List.cons_append, List.set_cons_zero, List.set_cons_succ, iv_set, bv_set, iv_rep, bv_rep]; rfl) | rfl)))) | (with_reducible refine AWo.nil ?_) | ((with_reducible apply AW.seq)) | ((with_reducible apply Then.n)) | ((with_reducible apply AW.regL)) | ((with_reducible apply AW.block)) | ((with_reducible apply AW.skip)) | ((with_reducible apply AW.condT); exact rfl; (focus ((simp only [decide_eq_true_eq, decide_eq_false_iff_not, Bool.not_eq_true', Bool.not_eq_false', Bool.not_true, Bool.not_false]; first | assumption | omega))))))
    ((with_reducible apply Step.appG (k := 2)); exact rfl; exact rfl; exact rfl; exact el27; exact un27; exact rfl; exact rfl; exact rfl; exact hln; exact rfl; exact rfl; exact rfl; (focus (omega)); exact rfl; (focus (first | (simp only [List.nil_append, List.cons_append, List.set_cons_zero, List.set_cons_succ, iv_set, bv_set, iv_rep, bv_rep]; done) | (simp only [List.nil_append, List.cons_append, List.set_cons_zero, List.set_cons_succ, iv_set, bv_set, iv_rep, bv_rep]; rfl) | rfl)))
    (repeat (first | (with_reducible refine AWo.cons ?_) | ((with_reducible refine Step.id ?_); first | ((with_reducible apply Step.move); exact rfl; exact rfl) | ((with_reducible apply Step.assign); exact rfl; exact rfl) | ((with_reducible apply Step.add); exact rfl; exact rfl; (focus (omega)); exact rfl)) | (with_reducible refine AWo.nil ?_) | ((with_reducible apply Then.n)) | ((with_reducible apply AW.regL)) | ((with_reducible apply InBlk.n))))
    refine ⟨_, [(1, .int .i64 (j : Nat)), (5, .slice (some ⟨m.length + 0, 0, none⟩) (k + 1) (k + 1)), (8, cv), (9, .int .i64 (l : Nat)), (10, .int .i64 ((k + 1 : Nat) : Int))], [some { cells := iv (tab (fun i => c i j) k) ++ [.int .i64 (c k j)], kind := .grow, size := 1 }], by omega, (Back.mv 0 2 rfl rfl rfl rfl (by intro j b hj h; rcases j with _ | _ | _ | _ | _ | _ | j <;> simp_all) (by repeat (first | exact CellsOk.nil | refine CellsOk.cons (by assumption) ?_)) (by repeat (first | exact trivial | (refine And.intro ⟨_, rfl, by (first | exact .int _ _ | exact Ren.slice_mv (by first | (simp; done) | omega | (simp; omega)) | exact Ren.of_sl_ne (by assumption) (by first | omega | (simp; omega)) (by first | omega | (simp; omega)))⟩ ?_)))), k + 1, rfl, by omega, ?_, ?_⟩
    · rw [ts, gb_pos (by simp [iv])]; simp [iv]
    · rw [gv_pos (by omega)]
  · obtain rfl : k = l := by omega
    have hln := g0_iv (tab (fun i => c i j) k)
    (repeat (first | (with_reducible refine AWo.cons ?_) | ((with_reducible refine Step.id ?_); first | ((with_reducible apply Step.move); exact rfl; exact rfl) | ((with_reducible apply Step.assign); exact rfl; exact rfl) | ((with_reducible apply Step.lss); exact rfl; exact rfl; exact rfl)) | (with_reducible refine AWo.nil ?_) | ((with_reducible apply AW.seq)) | ((with_reducible apply Then.n)) | ((with_reducible apply AW.regL)) | ((with_reducible apply AW.exit)) | ((with_reducible apply InBlk.hit)) | ((with_reducible apply Then.e)) | ((with_reducible apply AW.condF); exact rfl; (focus ((simp only [decide_eq_true_eq, decide_eq_false_iff_not, Bool.not_eq_true', Bool.not_eq_false', Bool.not_true, Bool.not_false]; first | assumption | omega))))))
    refine AW.retB (l := [(4, _)]) (L1 := [gb (iv (tab (fun i => c i j) k)) 1]) (Back.trim rfl rfl (by repeat (first | exact CellsOk.nil | refine CellsOk.gb (by assumption) ?_)) (by repeat (first | exact trivial | (refine And.intro ⟨rfl, by (exact Ren.of_gv (by first | (simp; done) | omega | (simp; omega)))⟩ ?_)))) ?_
    exact ⟨_, rfl, rfl, rfl⟩
def Prs (m : AM) (v : Value) (X : List (Nat × Nat)) : Prop := ∃ a o, Sl v a o X.length ∧ a < m.length ∧ ∀ k, k < X.length → RdL m a (o + k * 2) [.int .i64 (((X.getD k (0, 0)).1 : Nat) : Int), .int .i64 (((X.getD k (0, 0)).2 : Nat) : Int)]
theorem Prs.old {m : AM} {v : Value} {X : List (Nat × Nat)} (L : AM) (h : Prs m v X) : Prs (m ++ L) v X := by
  obtain ⟨a, o, h1, h2, h3⟩ := h
  exact ⟨a, o, h1, by simp; omega, fun k hk => (h3 k hk).old L⟩
section
variable {P : Program} {nt : Nat} {ops : Array Oper} {t : Fm} {m : AM} {K : Fm → AM → Prop} {d T : Nat} {p : String} {af : Array Edge}
end
end Go.Proofs.Ytajpngnphbdnnaa.Abs
namespace Go.Proofs.Ytajpngnphbdnnaa.Abs
set_option linter.unusedSimpArgs false
set_option linter.unusedVariables false
open Go.RowKit
open Go.Proofs.Ytajpngnphbdnnaa.Sim
open Go.Proofs
open Hung
theorem idxF_bd (pr : Nat → Bool) (n : Nat) : -1 ≤ idxF pr n ∧ idxF pr n < (n : Nat) ∧ (0 ≤ idxF pr n → pr (idxF pr n).toNat = true) := by
  unfold idxF
  cases h : (List.range n).find? pr with
  | none => simp; omega
  | some k =>
    have h1 := List.mem_range.1 (List.mem_of_find?_eq_some h)
    have h2 := List.find?_some h
    refine ⟨by simp only; omega, by simp only; omega, fun _ => by simpa using h2⟩
end Go.Proofs.Ytajpngnphbdnnaa.Abs
namespace Go.Proofs.Ytajpngnphbdnnaa.Abs
set_option linter.unusedSimpArgs false
set_option linter.unusedVariables false
open Go.Proofs
open Hung
/-- The right glove that a left one prefers among the first j that it may still ask; -1. -/
def bstF (a : Nat → Bool) (ci : Nat → Int) : Nat → Int
  | 0 => -1
  | j + 1 => if a j = false ∧ 0 ≤ ci j ∧ (bstF a ci j < 0 ∨ ci j < ci (bstF a ci j).toNat) then (j : Nat) else bstF a ci j
theorem bstF_bd (a : Nat → Bool) (ci : Nat → Int) : ∀ j, -1 ≤ bstF a ci j ∧ bstF a ci j < (j : Nat) ∧ (0 ≤ bstF a ci j → a (bstF a ci j).toNat = false ∧ 0 ≤ ci (bstF a ci j).toNat)
  | 0 => by simp [bstF]
  | j + 1 => by
    obtain ⟨h1, h2, h3⟩ := bstF_bd a ci j
    simp only [bstF]
    split
    · rename_i h
      refine ⟨by omega, by omega, fun _ => ?_⟩
      simp only [Int.toNat_natCast]
      exact ⟨h.1, h.2.1⟩
    · exact ⟨h1, by omega, h3⟩
/-- The order in which a glove prefers others. -/
def kl (ci : Nat → Int) (j k : Nat) : Prop := ci j < ci k ∨ ci j = ci k ∧ j < k
theorem bstF_min (a : Nat → Bool) (ci : Nat → Int) : ∀ (n j : Nat), j < n → a j = false → 0 ≤ ci j → 0 ≤ bstF a ci n ∧ ¬ kl ci j (bstF a ci n).toNat
  | 0, j, h, _, _ => by omega
  | n + 1, j, h, ha, hc => by
    obtain ⟨b1, b2, b3⟩ := bstF_bd a ci n
    simp only [bstF]
    split
    · rename_i hs
      obtain ⟨s1, s2, s3⟩ := hs
      refine ⟨by omega, ?_⟩
      simp only [Int.toNat_natCast]
      intro hk
      by_cases e : j = n
      · subst e; rcases hk with hk | hk <;> omega
      · obtain ⟨i1, i2⟩ := bstF_min a ci n j (by omega) ha hc
        apply i2
        rcases s3 with s3 | s3
        · omega
        · rcases hk with hk | hk
          · exact .inl (by omega)
          · exact .inl (by omega)
    · rename_i hs
      by_cases e : j = n
      · subst e
        have hb : ¬ (bstF a ci j < 0 ∨ ci j < ci (bstF a ci j).toNat) := fun h => hs ⟨ha, hc, h⟩
        refine ⟨by omega, fun hk => ?_⟩
        rcases hk with hk | hk
        · exact hb (.inr hk)
        · omega
      · exact bstF_min a ci n j (by omega) ha hc
structure GS where
  A : Nat → Nat → Bool
  mt : Nat → Int
  st : List Nat
def up2 (A : Nat → Nat → Bool) (i j : Nat) : Nat → Nat → Bool := up A i (up (A i) j true)
theorem up2_same (A : Nat → Nat → Bool) (i j : Nat) : up2 A i j i j = true := by unfold up2; rw [up_same, up_same]
theorem up2_row (A : Nat → Nat → Bool) (i j : Nat) : up2 A i j i = up (A i) j true := up_same _ _ _
theorem up2_ne {A : Nat → Nat → Bool} {i j x y : Nat} (h : ¬ (x = i ∧ y = j)) : up2 A i j x y = A x y := by
  unfold up2
  by_cases e : x = i
  · subst e; rw [up_same, up_ne _ _ fun e => h ⟨rfl, e⟩]
  · rw [up_ne _ _ e]
/-- One glove asks. -/
def gsTo (c : Nat → Nat → Int) (r : Nat) (A : Nat → Nat → Bool) (mt : Nat → Int) (S : List Nat) (i : Nat) : GS :=
  if bstF (A i) (c i) r < 0 then ⟨A, mt, S⟩
  else if 0 ≤ mt (bstF (A i) (c i) r).toNat ∧ prf (c i (bstF (A i) (c i) r).toNat) i (c (mt (bstF (A i) (c i) r).toNat).toNat (bstF (A i) (c i) r).toNat) (mt (bstF (A i) (c i) r).toNat) = false then ⟨up2 A i (bstF (A i) (c i) r).toNat, mt, S ++ [i]⟩
  else ⟨up2 A i (bstF (A i) (c i) r).toNat, up mt (bstF (A i) (c i) r).toNat (i : Nat), S ++ (if 0 ≤ mt (bstF (A i) (c i) r).toNat then [(mt (bstF (A i) (c i) r).toNat).toNat] else [])⟩
def gsRun (c : Nat → Nat → Int) (r : Nat) : Nat → GS → GS
  | 0, s => s
  | f + 1, s => match s.st.getLast? with
    | none => s
    | some i => gsRun c r f (gsTo c r s.A s.mt s.st.dropLast i)
def sumU (A : Nat → Nat → Bool) (r : Nat) : Nat → Nat
  | 0 => 0
  | l + 1 => sumU A r l + unN (A l) r
theorem sumU_congr {A B : Nat → Nat → Bool} {r : Nat} : ∀ {l : Nat}, (∀ i, i < l → A i = B i) → sumU A r l = sumU B r l
  | 0, _ => rfl
  | l + 1, h => by simp only [sumU]; rw [sumU_congr fun i hi => h i (by omega), h l (by omega)]
theorem sumU_up {A : Nat → Nat → Bool} {r i j : Nat} (hj : j < r) (ha : A i j = false) : ∀ {l : Nat}, i < l → sumU A r l = sumU (up2 A i j) r l + 1
  | 0, h => by omega
  | l + 1, h => by
    simp only [sumU]
    by_cases e : i = l
    · subst e
      rw [sumU_congr (B := up2 A i j) fun x hx => by unfold up2; rw [up_ne _ _ (by omega)], up2_row, unN_up hj ha]; omega
    · rw [sumU_up hj ha (by omega), show up2 A i j l = A l from by unfold up2; rw [up_ne _ _ (Ne.symm e)]]; omega
/-- What is left to be done at most. -/
def gsM (l r : Nat) (s : GS) : Nat := sumU s.A r l + s.st.length
/-- What the steps keep. -/
structure GsI (c : Nat → Nat → Int) (l r : Nat) (s : GS) : Prop where
  m1 : ∀ j, s.mt j = -1 ∨ ∃ i : Nat, s.mt j = (i : Nat) ∧ i < l ∧ j < r ∧ 0 ≤ c i j ∧ s.A i j = true
  inj : ∀ j j', 0 ≤ s.mt j → s.mt j = s.mt j' → j = j'
  fr : ∀ i ∈ s.st, i < l ∧ ∀ j, s.mt j ≠ (i : Nat)
  nd : s.st.Nodup
  asd : ∀ i j, s.A i j = true → j < r ∧ 0 ≤ c i j ∧ 0 ≤ s.mt j ∧ (s.mt j = (i : Nat) ∨ kl (fun x => c x j) (s.mt j).toNat i)
  ord : ∀ i j k, s.A i j = true → k < r → 0 ≤ c i k → kl (c i) k j → s.A i k = true
  ex : ∀ i, i < l → i ∈ s.st ∨ (∃ j, s.mt j = (i : Nat)) ∨ ∀ j, j < r → 0 ≤ c i j → s.A i j = true
theorem GsI.of {c : Nat → Nat → Int} {l r : Nat} {A : Nat → Nat → Bool} {mt : Nat → Int} {st : List Nat} (m1 : ∀ j, mt j = -1 ∨ ∃ i : Nat, mt j = (i : Nat) ∧ i < l ∧ j < r ∧ 0 ≤ c i j ∧ A i j = true) (inj : ∀ j j', 0 ≤ mt j → mt j = mt j' → j = j') (fr : ∀ i ∈ st, i < l ∧ ∀ j, mt j ≠ (i : Nat)) (nd : st.Nodup)
    (asd : ∀ i j, A i j = true → j < r ∧ 0 ≤ c i j ∧ 0 ≤ mt j ∧ (mt j = (i : Nat) ∨ kl (fun x => c x j) (mt j).toNat i)) (ord : ∀ i j k, A i j = true → k < r → 0 ≤ c i k → kl (c i) k j → A i k = true) (ex : ∀ i, i < l → i ∈ st ∨ (∃ j, mt j = (i : Nat)) ∨ ∀ j, j < r → 0 ≤ c i j → A i j = true) : GsI c l r ⟨A, mt, st⟩ :=
  ⟨m1, inj, fr, nd, asd, ord, ex⟩
theorem prf_kl {a b : Int} {i k : Nat} (ha : 0 ≤ a) (hb : 0 ≤ b) : prf a i b k = true ↔ (a < b ∨ a = b ∧ i < k) := by
  unfold prf
  simp only [Bool.and_eq_true, Bool.or_eq_true, decide_eq_true_eq]
  omega
theorem gsi_step {c : Nat → Nat → Int} {l r i : Nat} {A : Nat → Nat → Bool} {mt : Nat → Int} {S : List Nat} (h : GsI c l r ⟨A, mt, S ++ [i]⟩) : GsI c l r (gsTo c r A mt S i) ∧ gsM l r (gsTo c r A mt S i) < gsM l r ⟨A, mt, S ++ [i]⟩ := by
  obtain ⟨m1, inj, fr, nd, asd, ord, ex⟩ := h
  simp only at m1 inj fr nd asd ord ex
  obtain ⟨hil, hif⟩ := fr i (by simp)
  obtain ⟨ndS, _, ndi⟩ := List.nodup_append.1 nd
  have hiS : i ∉ S := fun h => ndi i h i (by simp) rfl
  obtain ⟨b1, b2, b3⟩ := bstF_bd (A i) (c i) r
  have bm := bstF_min (A i) (c i) r
  unfold gsTo
  generalize bstF (A i) (c i) r = b at *
  split
  · rename_i hb
    refine ⟨GsI.of m1 inj (fun x hx => fr x (by simp [hx])) ndS asd ord (fun x hx => ?_), by simp only [gsM, List.length_append, List.length_singleton]; omega⟩
    by_cases e : x = i
    · subst e
      exact .inr (.inr fun j hj hc => by
        cases ha : A x j with
        | true => rfl
        | false => have := (bm j hj ha hc).1; omega)
    · rcases ex x hx with h | h
      · exact .inl (by simpa [e] using h)
      · exact .inr h
  · rename_i hb
    obtain ⟨j, rfl⟩ := Int.eq_ofNat_of_zero_le (show 0 ≤ b by omega)
    simp only [Int.toNat_natCast] at b3 bm ⊢
    obtain ⟨a1, a2⟩ := b3 (by omega)
    have hjr : j < r := by omega
    have hmono : ∀ {x y}, A x y = true → up2 A i j x y = true := fun {x y} h => by
      by_cases e : x = i ∧ y = j
      · obtain ⟨rfl, rfl⟩ := e; exact up2_same _ _ _
      · rw [up2_ne e]; exact h
    have hord : ∀ x y k, up2 A i j x y = true → k < r → 0 ≤ c x k → kl (c x) k y → up2 A i j x k = true := fun x y k h hk hc hkl => by
      by_cases e : x = i ∧ y = j
      · obtain ⟨rfl, rfl⟩ := e
        cases ha : A x k with
        | true => exact hmono ha
        | false => exact absurd hkl (bm k hk ha hc).2
      · rw [up2_ne e] at h
        exact hmono (ord x y k h hk hc hkl)
    have hsum := sumU_up hjr a1 hil
    split
    · rename_i ho
      obtain ⟨o1, o2⟩ := ho
      rcases m1 j with h | ⟨k, k1, k2, _, k4, k5⟩
      · omega
      rw [k1] at o1 o2
      simp only [Int.toNat_natCast] at o2
      have hnp : ¬ (c i j < c k j ∨ c i j = c k j ∧ i < k) := fun h => by rw [(prf_kl a2 k4).2 h] at o2; cases o2
      have hki : k ≠ i := fun e => hif j (by rw [k1, e])
      refine ⟨GsI.of (fun y => ?_) inj fr nd (fun x y hx => ?_) hord (fun x hx => ?_), by simp only [gsM]; omega⟩
      · rcases m1 y with h | ⟨z, z1, z2, z3, z4, z5⟩
        · exact .inl h
        · exact .inr ⟨z, z1, z2, z3, z4, hmono z5⟩
      · by_cases e : x = i ∧ y = j
        · obtain ⟨rfl, rfl⟩ := e
          refine ⟨hjr, a2, by omega, .inr ?_⟩
          rw [k1]
          simp only [Int.toNat_natCast]
          simp only [kl]
          omega
        · rw [up2_ne e] at hx; exact asd x y hx
      · rcases ex x hx with h | h | h
        · exact .inl h
        · exact .inr (.inl h)
        · exact .inr (.inr fun y hy hc => hmono (h y hy hc))
    · rename_i ho
      have hinj2 : ∀ y y', 0 ≤ up mt j ((i : Nat) : Int) y → up mt j ((i : Nat) : Int) y = up mt j ((i : Nat) : Int) y' → y = y' := fun y y' h0 he => by
        by_cases e : y = j
        · by_cases e' : y' = j
          · omega
          · subst e; rw [up_same, up_ne _ _ e'] at he
            exact absurd he.symm (hif y')
        · by_cases e' : y' = j
          · subst e'; rw [up_same, up_ne _ _ e] at he
            exact absurd he (hif y)
          · rw [up_ne _ _ e, up_ne _ _ e'] at he
            rw [up_ne _ _ e] at h0
            exact inj y y' h0 he
      have hm2 : ∀ y, up mt j ((i : Nat) : Int) y = -1 ∨ ∃ z : Nat, up mt j ((i : Nat) : Int) y = (z : Nat) ∧ z < l ∧ y < r ∧ 0 ≤ c z y ∧ up2 A i j z y = true := fun y => by
        by_cases e : y = j
        · subst e; rw [up_same]; exact .inr ⟨i, rfl, hil, hjr, a2, up2_same _ _ _⟩
        · rw [up_ne _ _ e]
          rcases m1 y with h | ⟨z, z1, z2, z3, z4, z5⟩
          · exact .inl h
          · exact .inr ⟨z, z1, z2, z3, z4, hmono z5⟩
      by_cases h0 : 0 ≤ mt j
      · rw [if_pos h0]
        rcases m1 j with h | ⟨k, k1, k2, _, k4, k5⟩
        · omega
        have hki : k ≠ i := fun e => hif j (by rw [k1, e])
        rw [k1] at ho ⊢
        simp only [Int.toNat_natCast] at ho ⊢
        have hp : prf (c i j) i (c k j) k = true := by
          cases e : prf (c i j) i (c k j) k with
          | true => rfl
          | false => exact absurd ⟨by omega, e⟩ ho
        have hkl := (prf_kl a2 k4).1 hp
        have hkS : k ∉ S := fun h => (fr k (by simp [h])).2 j k1
        refine ⟨GsI.of hm2 hinj2 (fun x hx => ?_) ?_ (fun x y hx => ?_) hord (fun x hx => ?_), by simp only [gsM, List.length_append, List.length_singleton]; omega⟩
        · rcases List.mem_append.1 hx with hx | hx
          · obtain ⟨q1, q2⟩ := fr x (by simp [hx])
            refine ⟨q1, fun y => ?_⟩
            by_cases e : y = j
            · subst e; rw [up_same]; exact fun e => hiS (by rw [show i = x by omega]; exact hx)
            · rw [up_ne _ _ e]; exact q2 y
          · rw [List.mem_singleton] at hx; subst hx
            refine ⟨k2, fun y => ?_⟩
            by_cases e : y = j
            · subst e; rw [up_same]; omega
            · rw [up_ne _ _ e]
              intro he
              exact e (inj y j (by omega) (by rw [he, k1]))
        · rw [List.nodup_append]
          exact ⟨ndS, by simp, fun a ha b hb e => by rw [List.mem_singleton] at hb; subst hb; subst e; exact hkS ha⟩
        · by_cases e : y = j
          · subst e
            rw [up_same]
            by_cases ex' : x = i
            · subst ex'; exact ⟨hjr, a2, by omega, .inl rfl⟩
            · rw [up2_ne fun h => ex' h.1] at hx
              obtain ⟨q1, q2, q3, q4⟩ := asd x y hx
              refine ⟨q1, q2, by omega, .inr ?_⟩
              simp only [Int.toNat_natCast]
              rw [k1] at q4
              simp only [Int.toNat_natCast] at q4
              rcases q4 with q4 | q4
              · have : x = k := by omega
                subst this
                exact hkl
              · simp only [kl] at q4 ⊢
                omega
          · rw [up2_ne fun h => e h.2] at hx
            rw [up_ne _ _ e]; exact asd x y hx
        · by_cases exi : x = i
          · subst exi; exact .inr (.inl ⟨j, up_same _ _ _⟩)
          · rcases ex x hx with h | ⟨y, hy⟩ | h
            · exact .inl (by simp at h; simp [h.resolve_right exi])
            · by_cases e : y = j
              · subst e
                exact .inl (by rw [k1] at hy; simp; right; omega)
              · exact .inr (.inl ⟨y, by rw [up_ne _ _ e]; exact hy⟩)
            · exact .inr (.inr fun y hy hc => hmono (h y hy hc))
      · rw [if_neg h0, List.append_nil]
        refine ⟨GsI.of hm2 hinj2 (fun x hx => ?_) ndS (fun x y hx => ?_) hord (fun x hx => ?_), by simp only [gsM, List.length_append, List.length_singleton]; omega⟩
        · obtain ⟨q1, q2⟩ := fr x (by simp [hx])
          refine ⟨q1, fun y => ?_⟩
          by_cases e : y = j
          · subst e; rw [up_same]; exact fun e => hiS (by rw [show i = x by omega]; exact hx)
          · rw [up_ne _ _ e]; exact q2 y
        · by_cases e : y = j
          · subst e
            rw [up_same]
            by_cases ex' : x = i
            · subst ex'; exact ⟨hjr, a2, by omega, .inl rfl⟩
            · rw [up2_ne fun h => ex' h.1] at hx
              obtain ⟨_, _, q3, _⟩ := asd x y hx
              omega
          · rw [up2_ne fun h => e h.2] at hx
            rw [up_ne _ _ e]; exact asd x y hx
        · by_cases exi : x = i
          · subst exi; exact .inr (.inl ⟨j, up_same _ _ _⟩)
          · rcases ex x hx with h | ⟨y, hy⟩ | h
            · exact .inl (by simp at h; exact h.resolve_right exi)
            · by_cases e : y = j
              · subst e; omega
              · exact .inr (.inl ⟨y, by rw [up_ne _ _ e]; exact hy⟩)
            · exact .inr (.inr fun y hy hc => hmono (h y hy hc))
/-- The beginning: nobody has asked; the last glove asks first. -/
def gs0 (l : Nat) : GS := ⟨fun _ _ => false, fun _ => -1, List.range l⟩
theorem gsi0 (c : Nat → Nat → Int) (l r : Nat) : GsI c l r (gs0 l) :=
  GsI.of (fun _ => .inl rfl) (fun _ _ h => absurd h (by simp)) (fun i hi => ⟨List.mem_range.1 hi, fun j => by omega⟩) List.nodup_range (fun _ _ h => by cases h) (fun _ _ _ h => by cases h) (fun i hi => .inl (List.mem_range.2 hi))
theorem gsRun_end {c : Nat → Nat → Int} {l r : Nat} : ∀ {f : Nat} {s : GS}, GsI c l r s → gsM l r s ≤ f → GsI c l r (gsRun c r f s) ∧ (gsRun c r f s).st = []
  | 0, s, h, hf => ⟨h, List.eq_nil_of_length_eq_zero (show s.st.length = 0 by unfold gsM at hf; omega)⟩
  | f + 1, s, h, hf => by
    simp only [gsRun]
    cases hl : s.st.getLast? with
    | none => exact ⟨h, List.getLast?_eq_none_iff.1 hl⟩
    | some i =>
      obtain ⟨S, hS⟩ : ∃ S, s.st = S ++ [i] := by
        obtain ⟨A, mt, st⟩ := s
        exact List.getLast?_eq_some_iff.1 hl
      obtain ⟨A, mt, st⟩ := s
      simp only at hS ⊢
      subst hS
      rw [List.dropLast_concat]
      obtain ⟨h1, h2⟩ := gsi_step h
      exact gsRun_end h1 (by omega)
/-- The partner of a left glove. -/
def outF (mt : Nat → Int) (r i : Nat) : Int := idxF (fun j => decide (mt j = ((i : Nat) : Int))) r
end Go.Proofs.Ytajpngnphbdnnaa.Abs
namespace Go.Proofs.Ytajpngnphbdnnaa.Abs
set_option linter.unusedSimpArgs false
set_option linter.unusedVariables false
open Go.Proofs
open Hung
theorem outF_cases {mt : Nat → Int} {r i : Nat} : (outF mt r i = -1 ∧ ∀ j, j < r → mt j ≠ (i : Nat)) ∨ ∃ j : Nat, j < r ∧ outF mt r i = (j : Nat) ∧ mt j = (i : Nat) := by
  unfold outF
  obtain ⟨h1, h2, h3⟩ := idxF_bd (fun j => decide (mt j = ((i : Nat) : Int))) r
  by_cases h0 : 0 ≤ idxF (fun j => decide (mt j = ((i : Nat) : Int))) r
  · exact .inr ⟨(idxF (fun j => decide (mt j = ((i : Nat) : Int))) r).toNat, by omega, by omega, by simpa using h3 h0⟩
  · obtain ⟨e1, e2⟩ := idxF_neg' (pr := fun j => decide (mt j = ((i : Nat) : Int))) (n := r) (by omega)
    exact .inl ⟨e1, fun j hj => by simpa using e2 j hj⟩
structure Fin (c : Nat → Nat → Int) (l r : Nat) (s : GS) : Prop extends GsI c l r s where
  emp : s.st = []
section
variable {c : Nat → Nat → Int} {l r : Nat} {s : GS}
theorem Fin.out (h : Fin c l r s) {i : Nat} (hi : i < l) : (tab (outF s.mt r) l).getD i 0 = outF s.mt r i := tab_get _ hi
end
end Go.Proofs.Ytajpngnphbdnnaa.Abs
namespace Go.Proofs.Ytajpngnphbdnnaa.Abs
set_option linter.unusedSimpArgs false
set_option linter.unusedVariables false
open Go.RowKit
open Go.Proofs.Ytajpngnphbdnnaa.Sim
open Go.Proofs
open Hung
theorem el98 : elemB Try.prog 98 = some (88, 1, 24, #[.slice none 0 0]) := by kernel_rfl
section
variable {P : Program} {nt : Nat} {ops : Array Oper} {t : Fm} {m : AM} {K : Fm → AM → Prop} {d T : Nat} {p : String} {af : Array Edge}
theorem Step.appInG {x y : Operand} {X Y e e' : TypeId} {by_ : Nat} {z : Array Value} {q r n cp : Nat} {c old Z : List Value} {new : Value} {b : Blk} {L' : AM} (hx : evo t x = some (.slice (some ⟨q, 0, none⟩) n cp)) (hy : evo t y = some (.slice (some ⟨r, 0, none⟩) 1 1)) (hE : elemB P X = some (e, 1, by_, z)) (hY : P.underlying Y = some (.slice e'))
    (hq : m[q]? = some (some b)) (hbs : b.kind.solid = true) (hbc : b.cells = c ++ (old ++ Z)) (hc : c.length = n) (ho : old.length = 1) (hr : m[r]? = some (some { cells := [new] })) (hn1 : new.oneCell' = true) (hcp : n + 1 ≤ cp) (hlt : Nat.blt d nt = true)
    (hL : m.set q (some { b with cells := c ++ (new :: Z) }) ++ [none] = L') (hK : K (put t d (.slice (some ⟨q, 0, none⟩) (n + 1) cp)) L') :
    Step P nt ops ⟨some d, .call ⟨.builtin .append, #[x, y], #[X, Y]⟩, T, p, af, none⟩ t m K := by
  have := Step.appIn (P := P) (nt := nt) (ops := ops) (T := T) (p := p) (af := af) (K := K) (M := []) (L := m) (k := m.length) (q := q) (r := r) rfl (by simpa using hx) (by simpa using hy) hE hY hq hbs hbc hc ho hr hn1 hcp hlt hL (by simpa using hK)
  simpa using this
end
/-- Where the rows of the asking lie. -/
structure SI (ob : Bool) (m M : AM) (O T W Q : Nat) (P : Nat → Nat) (l r : Nat) (kd : Kind) (sz : Nat) (o mt : Nat → Int) (A : Nat → Nat → Bool) (st : List Nat) : Prop where
  o : ob = true → M[O]? = some (some { cells := iv (tab o l) })
  t : M[T]? = some (some { cells := iv (tab mt r) })
  w : M[W]? = some (some { cells := (List.range l).map fun i => .slice (some ⟨P i, 0, none⟩) r r })
  rows : ∀ i, i < l → M[P i]? = some (some { cells := bv (tabB (A i) r) })
  q : 0 < l → ∃ Z, M[Q]? = some (some { cells := iv (nats st ++ Z), kind := kd, size := sz }) ∧ st.length + Z.length = l
  ln : st.length ≤ l
  d1 : O ≠ T ∧ O ≠ W ∧ O ≠ Q ∧ T ≠ W ∧ T ≠ Q ∧ W ≠ Q
  d2 : ∀ i, i < l → P i ≠ O ∧ P i ≠ T ∧ P i ≠ W ∧ P i ≠ Q
  d3 : ∀ i i', i < l → i' < l → P i = P i' → i = i'
  low : ∃ N, M = m ++ N
  dm : m.length ≤ O ∧ m.length ≤ T ∧ m.length ≤ W ∧ m.length ≤ Q
  dp : ∀ i, i < l → m.length ≤ P i
theorem set_low {m M : AM} {k : Nat} {b : Option Blk} (h : ∃ N, M = m ++ N) (hk : m.length ≤ k) : ∃ N, M.set k b = m ++ N := by
  obtain ⟨N, rfl⟩ := h
  exact ⟨_, List.set_append_right _ _ hk⟩
theorem app_low {m M : AM} (L : AM) (h : ∃ N, M = m ++ N) : ∃ N, M ++ L = m ++ N := by
  obtain ⟨N, rfl⟩ := h
  exact ⟨_, List.append_assoc _ _ _⟩
section
variable {ob : Bool} {m M : AM} {O T W Q : Nat} {P : Nat → Nat} {l r : Nat} {kd : Kind} {sz : Nat} {o mt : Nat → Int} {A : Nat → Nat → Bool} {st : List Nat}
theorem SI.old (h : SI ob m M O T W Q P l r kd sz o mt A st) (L : AM) : SI ob m (M ++ L) O T W Q P l r kd sz o mt A st := by
  exact ⟨fun hb => get_old _ (h.o hb), get_old _ h.t, get_old _ h.w, fun i hi => get_old _ (h.rows i hi), fun hp => by (obtain ⟨Z, z1, z2⟩ := h.q hp; exact ⟨Z, get_old _ z1, z2⟩), h.ln, h.d1, h.d2, h.d3, app_low L h.low, h.dm, h.dp⟩
theorem SI.setO (h : SI ob m M O T W Q P l r kd sz o mt A st) (k : Nat) (x : Int) : SI ob m (M.set O (some { cells := (iv (tab o l)).set k (.int .i64 x) })) O T W Q P l r kd sz (up o k x) mt A st := by
  obtain ⟨a1, a2, a3, _⟩ := h.d1
  refine ⟨fun hb => by rw [List.getElem?_set_self (List.getElem?_eq_some_iff.1 (h.o hb)).1, iv_set, tab_set], by rw [List.getElem?_set_ne a1]; exact h.t, by rw [List.getElem?_set_ne a2]; exact h.w, fun i hi => by rw [List.getElem?_set_ne (Ne.symm (h.d2 i hi).1)]; exact h.rows i hi, fun hp => by (obtain ⟨Z, z1, z2⟩ := h.q hp; exact ⟨Z, by rw [List.getElem?_set_ne a3]; exact z1, z2⟩), h.ln, h.d1, h.d2, h.d3, set_low h.low h.dm.1, h.dm, h.dp⟩
theorem SI.setT (h : SI ob m M O T W Q P l r kd sz o mt A st) (k : Nat) (x : Int) : SI ob m (M.set T (some { cells := (iv (tab mt r)).set k (.int .i64 x) })) O T W Q P l r kd sz o (up mt k x) A st := by
  obtain ⟨a1, _, _, a4, a5, _⟩ := h.d1
  have hT := (List.getElem?_eq_some_iff.1 h.t).1
  refine ⟨fun hb => by rw [List.getElem?_set_ne (Ne.symm a1)]; exact h.o hb, by rw [List.getElem?_set_self hT, iv_set, tab_set], by rw [List.getElem?_set_ne a4]; exact h.w, fun i hi => by rw [List.getElem?_set_ne (Ne.symm (h.d2 i hi).2.1)]; exact h.rows i hi, fun hp => by (obtain ⟨Z, z1, z2⟩ := h.q hp; exact ⟨Z, by rw [List.getElem?_set_ne a5]; exact z1, z2⟩), h.ln, h.d1, h.d2, h.d3, set_low h.low h.dm.2.1, h.dm, h.dp⟩
theorem SI.setA (h : SI ob m M O T W Q P l r kd sz o mt A st) {i : Nat} (hi : i < l) (j : Nat) : SI ob m (M.set (P i) (some { cells := (bv (tabB (A i) r)).set j (.bool true) })) O T W Q P l r kd sz o mt (up2 A i j) st := by
  obtain ⟨e1, e2, e3, e4⟩ := h.d2 i hi
  have hP := (List.getElem?_eq_some_iff.1 (h.rows i hi)).1
  refine ⟨fun hb => by rw [List.getElem?_set_ne e1]; exact h.o hb, by rw [List.getElem?_set_ne e2]; exact h.t, by rw [List.getElem?_set_ne e3]; exact h.w, fun x hx => ?_, fun hp => by (obtain ⟨Z, z1, z2⟩ := h.q hp; exact ⟨Z, by rw [List.getElem?_set_ne e4]; exact z1, z2⟩), h.ln, h.d1, h.d2, h.d3, set_low h.low (h.dp i hi), h.dm, h.dp⟩
  by_cases e : x = i
  · subst e; rw [List.getElem?_set_self hP, bv_set, tabB_set, up2_row]
  · rw [List.getElem?_set_ne fun q => e (h.d3 x i hx hi q.symm), show up2 A i j x = A x from by unfold up2; rw [up_ne _ _ e]]
    exact h.rows x hx
theorem SI.pop {S : List Nat} {i : Nat} (h : SI ob m M O T W Q P l r kd sz o mt A (S ++ [i])) : SI ob m M O T W Q P l r kd sz o mt A S := by
  refine ⟨h.o, h.t, h.w, h.rows, fun hp => ?_, by have := h.ln; simp at this; omega, h.d1, h.d2, h.d3, h.low, h.dm, h.dp⟩
  obtain ⟨Z, z1, z2⟩ := h.q hp
  refine ⟨((i : Nat) : Int) :: Z, ?_, ?_⟩
  · rw [z1]; simp [nats]
  · simp at z2 ⊢; omega
/-- A glove is put on top. -/
theorem SI.push (h : SI ob m M O T W Q P l r kd sz o mt A st) (hlt : st.length < l) : ∃ (old : Int) (Z : List Int), M[Q]? = some (some { cells := iv (nats st) ++ ([.int .i64 old] ++ iv Z), kind := kd, size := sz }) ∧
    ∀ x : Nat, SI ob m (M.set Q (some { cells := iv (nats st) ++ (.int .i64 (x : Nat) :: iv Z), kind := kd, size := sz })) O T W Q P l r kd sz o mt A (st ++ [x]) := by
  obtain ⟨Z, z1, z2⟩ := h.q (by omega)
  obtain ⟨_, _, a3, _, a5, a6⟩ := h.d1
  have hQ := (List.getElem?_eq_some_iff.1 z1).1
  cases Z with
  | nil => simp at z2; omega
  | cons y Z =>
    refine ⟨y, Z, by rw [z1]; simp [iv], fun x => ⟨fun hb => by rw [List.getElem?_set_ne (Ne.symm a3)]; exact h.o hb, by rw [List.getElem?_set_ne (Ne.symm a5)]; exact h.t, by rw [List.getElem?_set_ne (Ne.symm a6)]; exact h.w, fun i hi => by rw [List.getElem?_set_ne (Ne.symm (h.d2 i hi).2.2.2)]; exact h.rows i hi, fun _ => ⟨Z, by rw [List.getElem?_set_self hQ]; simp [iv, nats], by simp at z2 ⊢; omega⟩, by simp; omega, h.d1, h.d2, h.d3, set_low h.low h.dm.2.2.2, h.dm, h.dp⟩⟩
theorem SI.rdO (h : SI true m M O T W Q P l r kd sz o mt A st) {k : Nat} (hk : k < l) : Rd M O k (.int .i64 (o k)) := ⟨_, h.o rfl, by have := iv_get (l := tab o l) (k := k) (by simpa using hk); rwa [tab_get o hk] at this⟩
theorem SI.rdT (h : SI ob m M O T W Q P l r kd sz o mt A st) {k : Nat} (hk : k < r) : Rd M T k (.int .i64 (mt k)) := ⟨_, h.t, by have := iv_get (l := tab mt r) (k := k) (by simpa using hk); rwa [tab_get mt hk] at this⟩
theorem SI.rdW (h : SI ob m M O T W Q P l r kd sz o mt A st) {k : Nat} (hk : k < l) : Rd M W k (.slice (some ⟨P k, 0, none⟩) r r) := ⟨_, h.w, by simp [hk]⟩
theorem SI.rdA (h : SI ob m M O T W Q P l r kd sz o mt A st) {i j : Nat} (hi : i < l) (hj : j < r) {b : Bool} (hb : A i j = b) : Rd M (P i) j (.bool b) := ⟨_, h.rows i hi, by subst hb; have := bv_get (l := tabB (A i) r) (k := j) (by simpa using hj); rwa [tabB_get (A i) hj] at this⟩
theorem SI.rdQ {S : List Nat} {i : Nat} (h : SI ob m M O T W Q P l r kd sz o mt A (S ++ [i])) : Rd M Q S.length (.int .i64 (i : Nat)) := by
  obtain ⟨Z, z1, z2⟩ := h.q (by have := h.ln; simp at this; omega)
  refine ⟨_, z1, ?_⟩
  simp [iv, nats]
end
/-- How out goes with the partners. -/
def ORel (l : Nat) (o mt : Nat → Int) : Prop := ∀ x, x < l → (o x = -1 ∧ ∀ j, mt j ≠ (x : Nat)) ∨ ∃ j : Nat, o x = (j : Nat) ∧ mt j = (x : Nat)
theorem orel_out {c : Nat → Nat → Int} {l r : Nat} {s : GS} {o : Nat → Int} (h : GsI c l r s) (ho : ORel l o s.mt) : tab o l = tab (outF s.mt r) l := tab_congr fun x hx => by
  rcases outF_cases (mt := s.mt) (r := r) (i := x) with ⟨e1, e2⟩ | ⟨y, y1, y2, y3⟩
  · rcases ho x hx with ⟨h1, _⟩ | ⟨j, h1, h2⟩
    · rw [h1, e1]
    · rcases h.m1 j with e | ⟨k, k1, k2, k3, _⟩
      · omega
      · exact absurd h2 (e2 j k3)
  · rcases ho x hx with ⟨_, h1⟩ | ⟨j, h1, h2⟩
    · exact absurd y3 (h1 y)
    · have : j = y := h.inj j y (by omega) (by rw [h2, y3])
      rw [h1, y2, this]
/-- A left glove is taken by one that is free. -/
theorem orel_free {l i j : Nat} {o mt : Nat → Int} (h : ORel l o mt) (hj : mt j = -1) (hif : ∀ k, mt k ≠ (i : Nat)) : ORel l (up o i (j : Nat)) (up mt j (i : Nat)) := fun x hx => by
  by_cases e : x = i
  · subst e; exact .inr ⟨j, up_same _ _ _, up_same _ _ _⟩
  · rw [up_ne _ _ e]
    rcases h x hx with ⟨h1, h2⟩ | ⟨k, h1, h2⟩
    · refine .inl ⟨h1, fun y => ?_⟩
      by_cases ey : y = j
      · subst ey; rw [up_same]; omega
      · rw [up_ne _ _ ey]; exact h2 y
    · exact .inr ⟨k, h1, by rw [up_ne _ _ fun e => by subst e; omega]; exact h2⟩
/-- A left glove takes the place of another. -/
theorem orel_swap {l i j k : Nat} {o mt : Nat → Int} (h : ORel l o mt) (hj : mt j = (k : Nat)) (hif : ∀ k, mt k ≠ (i : Nat)) (hinj : ∀ j j', 0 ≤ mt j → mt j = mt j' → j = j') : ORel l (up (up o k (-1)) i (j : Nat)) (up mt j (i : Nat)) := fun x hx => by
  by_cases e : x = i
  · subst e; exact .inr ⟨j, up_same _ _ _, up_same _ _ _⟩
  · rw [up_ne _ _ e]
    by_cases ek : x = k
    · subst ek
      refine .inl ⟨up_same _ _ _, fun y => ?_⟩
      by_cases ey : y = j
      · subst ey; rw [up_same]; omega
      · rw [up_ne _ _ ey]
        exact fun q => ey (hinj y j (by omega) (by rw [q, hj]))
    · rw [up_ne _ _ ek]
      rcases h x hx with ⟨h1, h2⟩ | ⟨y, h1, h2⟩
      · refine .inl ⟨h1, fun y => ?_⟩
        by_cases ey : y = j
        · subst ey; rw [up_same]; omega
        · rw [up_ne _ _ ey]; exact h2 y
      · exact .inr ⟨y, h1, by rw [up_ne _ _ fun e => by subst e; omega]; exact h2⟩
/-- What asking ends with. -/
def stF (c : Nat → Nat → Int) (l r : Nat) : GS := gsRun c r (gsM l r (gs0 l)) (gs0 l)
theorem gsRun_nil {c : Nat → Nat → Int} {r : Nat} {A : Nat → Nat → Bool} {mt : Nat → Int} : ∀ f, gsRun c r f ⟨A, mt, []⟩ = ⟨A, mt, []⟩
  | 0 => rfl
  | _ + 1 => rfl
theorem gsRun_snoc {c : Nat → Nat → Int} {r f i : Nat} {A : Nat → Nat → Bool} {mt : Nat → Int} {S : List Nat} : gsRun c r (f + 1) ⟨A, mt, S ++ [i]⟩ = gsRun c r f (gsTo c r A mt S i) := by
  simp only [gsRun]
  rw [show (S ++ [i]).getLast? = some i from by simp]
  simp only
  rw [List.dropLast_concat]
theorem stF_fin (c : Nat → Nat → Int) (l r : Nat) : GsI c l r (stF c l r) ∧ (stF c l r).st = [] := gsRun_end (gsi0 c l r) (Nat.le_refl _)
end Go.Proofs.Ytajpngnphbdnnaa.Abs
namespace Go.Proofs.Ytajpngnphbdnnaa.Abs
set_option linter.unusedSimpArgs false
set_option linter.unusedVariables false
open Go.RowKit
open Go.Proofs.Ytajpngnphbdnnaa.Sim
open Go.Proofs
open Hung
/-- A row that grew at a place between lo and hi. -/
def Row1 (M : AM) (lo hi : Nat) (v : Value) (X : List Int) : Prop := (X = [] ∧ v = .slice none 0 0) ∨ (0 < X.length ∧ ∃ s, lo ≤ s ∧ s < hi ∧ v = .slice (some ⟨s, 0, none⟩) X.length X.length ∧ M[s]? = some (some { cells := iv X, kind := .grow, size := 1 }))
theorem Row1.keep {M M' : AM} {lo hi hi' : Nat} {v : Value} {X : List Int} (h : Row1 M lo hi v X) (hh : hi ≤ hi') (hk : ∀ s, lo ≤ s → s < hi → M[s]? = some (some { cells := iv X, kind := .grow, size := 1 }) → M'[s]? = M[s]?) : Row1 M' lo hi' v X := by
  rcases h with h | ⟨h1, s, h2, h3, h4, h5⟩
  · exact .inl h
  · exact .inr ⟨h1, s, h2, by omega, h4, by rw [hk s h2 h3 h5]; exact h5⟩
theorem Row1.ints {M : AM} {lo hi : Nat} {v : Value} {X : List Int} (h : Row1 M lo hi v X) (hM : 0 < M.length) : Ints M v X := by
  rcases h with ⟨rfl, rfl⟩ | ⟨h1, s, h2, h3, rfl, h5⟩
  · exact ints_nil hM
  · exact ints_at h5 rfl _ rfl
/-- The graph while it is made: rows before k are done, of row k what lies below j. -/
structure GI (M : AM) (W B n k j : Nat) (adj : Nat → Nat → Bool) (ws : List Value) : Prop where
  len : ws.length = n
  w : M[W]? = some (some { cells := ws })
  lo : W + 2 ≤ B
  hi : B ≤ M.length
  fin : ∀ i, i < k → ∃ v, ws[i]? = some v ∧ Row1 M (W + 2) B v (selL (adj i) n)
  cur : k < n → ∃ v, ws[k]? = some v ∧ Row1 M B M.length v (selL (adj k) j)
  rest : ∀ i, k < i → i < n → ws[i]? = some (.slice none 0 0)
section
variable {M : AM} {W B n k j : Nat} {adj : Nat → Nat → Bool} {ws : List Value}
theorem GI.old (h : GI M W B n k j adj ws) (L : AM) : GI (M ++ L) W B n k j adj ws :=
  ⟨h.len, get_old _ h.w, h.lo, by have := h.hi; simp; omega, fun i hi => by
    obtain ⟨v, h1, h2⟩ := h.fin i hi
    exact ⟨v, h1, h2.keep (Nat.le_refl _) fun s _ hs _ => List.getElem?_append_left (by have := h.hi; omega)⟩, fun hk => by
    obtain ⟨v, h1, h2⟩ := h.cur hk
    exact ⟨v, h1, h2.keep (by simp) fun s _ hs _ => List.getElem?_append_left hs⟩, h.rest⟩
theorem GI.skip (h : GI M W B n k j adj ws) (ha : adj k j = false) : GI M W B n k (j + 1) adj ws :=
  ⟨h.len, h.w, h.lo, h.hi, h.fin, fun hk => by rw [selL_no ha]; exact h.cur hk, h.rest⟩
theorem GI.next (h : GI M W B n k n adj ws) (hk : k < n) : GI M W M.length n (k + 1) 0 adj ws :=
  ⟨h.len, h.w, by have := h.lo; have := h.hi; omega, Nat.le_refl _, fun i hi => by
    by_cases e : i = k
    · subst e
      obtain ⟨v, h1, h2⟩ := h.cur hk
      refine ⟨v, h1, ?_⟩
      rcases h2 with h2 | ⟨q1, s, q2, q3, q4, q5⟩
      · exact .inl h2
      · exact .inr ⟨q1, s, by have := h.lo; omega, q3, q4, q5⟩
    · obtain ⟨v, h1, h2⟩ := h.fin i (by omega)
      exact ⟨v, h1, h2.keep h.hi fun _ _ _ _ => rfl⟩, fun hk' => ⟨_, h.rest (k + 1) (by omega) hk', .inl ⟨rfl, rfl⟩⟩, fun i h1 h2 => h.rest i (by omega) h2⟩
end
section
variable {P : Program} {nt : Nat} {ops : Array Oper} {t : Fm} {m : AM} {K : Fm → AM → Prop} {T : Nat} {pp : String} {af : Array Edge}
/-- A cell of a row is set. -/
theorem Step.storeW {x y : Operand} {ty : TypeId} {a o : Nat} {v : Value} {ws : List Value} {M2 : AM} (hx : evo t x = some (.pointer (some ⟨a, o, none⟩))) (hy : evo t y = some v) (hb : m[a]? = some (some { cells := ws })) (ho : o < ws.length) (hz : szB P ty = some 1) (hc : v.cells = #[v]) (h1 : v.oneCell' = true) (hM : m.set a (some { cells := ws.set o v }) = M2) (hK : K t M2) :
    Step P nt ops ⟨none, .store ty x y, T, pp, af, none⟩ t m K :=
  Step.storeC hx hy hb rfl hz hc h1 ho (by subst hM; exact hK)
end
/-- Which gloves of a heap are allowed with each other. -/
def ag (u : Ru) (H : List Gl) (i j : Nat) : Bool := decide (i ≠ j) && decide (0 ≤ cT u H H i j)
/-- The graph of a heap. -/
def Grf (M : AM) (v : Value) (n : Nat) (adj : Nat → Nat → Bool) : Prop := ∃ a wv b, v = .pointer (some ⟨a, 0, none⟩) ∧ a < M.length ∧ Rd M a 0 (.int .i64 (n : Nat)) ∧ Rd M a 1 wv ∧ Sl wv b 0 n ∧ b < M.length ∧ ∀ i, i < n → ∃ w, Rd M b i w ∧ Ints M w (selL (adj i) n)
theorem Grf.old {M : AM} {v : Value} {n : Nat} {adj : Nat → Nat → Bool} (L : AM) (h : Grf M v n adj) : Grf (M ++ L) v n adj := by
  obtain ⟨a, wv, b, h1, h2, h3, h4, h5, h6, h7⟩ := h
  exact ⟨a, wv, b, h1, by simp; omega, h3.old L, h4.old L, h5, by simp; omega, fun i hi => by
    obtain ⟨w, k1, k2⟩ := h7 i hi
    exact ⟨w, k1.old L, k2.old L⟩⟩
end Go.Proofs.Ytajpngnphbdnnaa.Abs
namespace Go.Proofs.Ytajpngnphbdnnaa.Abs
set_option linter.unusedSimpArgs false
set_option linter.unusedVariables false
open Go.RowKit
open Go.Proofs.Ytajpngnphbdnnaa.Sim
open Go.Proofs
open Hung
set_option maxRecDepth 100000 in
theorem Stable_no {m : AM} {lv rv : Value} {u : Ru} {L R : List Gl} (hl : Gls m lv L) (hr : Gls m rv R) (h1 : L.length ≤ 100000) (h2 : R.length ≤ 100000) (hn : (sB L && sB R && uB u) = false) : ACall Try.prog 33 #[lv, rv, u.v] m (Ret (.tuple #[.slice none 0 0, .int .i64 2]) m) := by
  have r0 : ∀ T : AM, RdL (m ++ (some { cells := u.cells } :: T)) (m.length + 0) 0 u.cells := fun T => RdL.new rfl rfl
  have hc := fun T => costs_no (hl.old T) (hr.old T) h1 h2 hn
  refine ACall.start Try.func33 rfl rfl ?_
  (repeat (first | (with_reducible refine AWo.cons ?_) | ((with_reducible refine Step.id ?_); first | ((with_reducible apply Step.move); exact rfl; exact rfl) | ((with_reducible apply Step.assign); exact rfl; exact rfl) | ((with_reducible apply Step.loadL (n := 8)); exact rfl; (focus (decide +kernel)); (focus (decide +kernel)); exact rfl; (focus (exact RdL.new rfl rfl)); exact rfl; exact rfl) | ((with_reducible apply Step.ptrNil); exact rfl; exact rfl; exact un77; exact rfl) | ((with_reducible apply Step.callR fit); exact rfl; exact Try.func54; exact rfl; exact rfl; exact (hc _)) | ((with_reducible apply Step.box 0); exact rfl; exact rfl; (focus (kernel_rfl)); exact rfl; (focus (first | (simp only [List.nil_append, List.cons_append, List.set_cons_zero, List.set_cons_succ, iv_set, bv_set, iv_rep, bv_rep]; done) | (simp only [List.nil_append, List.cons_append, List.set_cons_zero, List.set_cons_succ, iv_set, bv_set, iv_rep, bv_rep]; rfl) | rfl)))) | (with_reducible refine AWo.nil ?_) | ((with_reducible apply AW.seq)) | ((with_reducible apply Then.n)) | ((with_reducible apply AW.regL)) | ((with_reducible apply AW.condT); exact rfl; (focus (rfl)))))
  (refine AW.retD (l := [(6, _), (7, _)]) (by repeat (first | exact trivial | (refine And.intro ⟨rfl, by (first | exact .int _ _ | exact Ren.of_g0 rfl)⟩ ?_))) ?_; (repeat (first | refine Then.r ?_ | refine InBlk.r ?_)))
  exact ⟨_, rfl, rfl, rfl⟩
/-- The row of rows of which i are made. -/
def rwW (b l r i : Nat) : List Value := (List.range l).map fun x => if x < i then .slice (some ⟨b + (3 + x), 0, none⟩) r r else .slice none 0 0
def stL (b l r i : Nat) : AM := some { cells := iv (tab (fun x => if x < i then -1 else 0) l) } :: some { cells := iv (tab (fun _ => -1) r) } :: some { cells := rwW b l r i } :: List.replicate i (some { cells := bv (tabB (fun _ => false) r) })
theorem rwW_zero (b l r : Nat) : rwW b l r 0 = List.replicate l (.slice none 0 0) := by
  unfold rwW
  simp [List.map_const']
theorem rwW_set {b l r i : Nat} : (rwW b l r i).set i (.slice (some ⟨b + (3 + i), 0, none⟩) r r) = rwW b l r (i + 1) := by
  apply List.ext_getElem?
  intro x
  unfold rwW
  by_cases hx : x < l
  · by_cases e : i = x
    · subst e; simp [hx]
    · rw [List.getElem?_set_ne e]
      simp only [List.getElem?_map, List.getElem?_range hx, Option.map_some]
      by_cases h : x < i
      · rw [if_pos h, if_pos (by omega)]
      · rw [if_neg h, if_neg (by omega)]
  · rw [List.getElem?_eq_none (by simp; omega), List.getElem?_eq_none (by simp; omega)]
theorem rwW_full {b l r : Nat} : rwW b l r l = (List.range l).map fun i => .slice (some ⟨b + (3 + i), 0, none⟩) r r := by
  unfold rwW
  apply List.map_congr_left
  intro x hx
  rw [if_pos (List.mem_range.1 hx)]
@[simp] theorem rwW_len (b l r i : Nat) : (rwW b l r i).length = l := by simp [rwW]
theorem si_start {m : AM} {l r : Nat} : SI true m (m ++ (stL m.length l r l ++ [some { cells := iv (nats (List.range l)) }])) (m.length + 0) (m.length + 1) (m.length + 2) (m.length + (3 + l)) (fun i => m.length + (3 + i)) l r .own 1 (fun _ => -1) (fun _ => -1) (fun _ _ => false) (List.range l) := by
  refine ⟨fun _ => ?_, ?_, ?_, fun i hi => ?_, fun _ => ⟨[], ?_, by simp⟩, by simp, by refine ⟨?_, ?_, ?_, ?_, ?_, ?_⟩ <;> omega, fun i _ => by refine ⟨?_, ?_, ?_, ?_⟩ <;> omega, fun i i' _ _ h => by omega, ⟨_, rfl⟩, ⟨by omega, by omega, by omega, by omega⟩, fun i _ => by omega⟩
  · rw [get_app]; simp only [stL]; rw [fill_all]; rfl
  · rw [get_app]; rfl
  · rw [get_app]; simp only [stL]; rw [rwW_full]; rfl
  · rw [get_app]
    simp only [stL]
    rw [show 3 + i = i + 1 + 1 + 1 by omega]
    simp only [List.cons_append, List.getElem?_cons_succ]
    rw [List.getElem?_append_left (by simpa using hi)]
    simp [hi]
  · rw [get_app, List.getElem?_append_right (by simp [stL]; omega)]
    simp [stL]
    rw [show 3 + l - (l + 1 + 1 + 1) = 0 by omega]
    rfl
set_option maxHeartbeats 8000000 in
set_option maxRecDepth 100000 in
theorem Stable_ok {m : AM} {lv rv : Value} {u : Ru} {L R : List Gl} (hl : Gls m lv L) (hr : Gls m rv R) (hL : sB L = true) (hR : sB R = true) (hu : uB u = true) :
    ACall Try.prog 33 #[lv, rv, u.v] m (More (fun m' v => ∃ w, v = .tuple #[w, .int .i64 0] ∧ Ints m' w (tab (outF (stF (cT u L R) L.length R.length).mt R.length) L.length)) m) := by
  have h1 : L.length ≤ 32 ∧ L.all gB = true := by simpa [sB] using hL
  have h2 : R.length ≤ 32 ∧ R.all gB = true := by simpa [sB] using hR
  have r0 : ∀ T : AM, RdL (m ++ (some { cells := u.cells } :: T)) (m.length + 0) 0 u.cells := fun T => RdL.new rfl rfl
  refine ACall.start Try.func33 rfl rfl ?_
  (repeat (first | (with_reducible refine AWo.cons ?_) | ((with_reducible refine Step.id ?_); first | ((with_reducible apply Step.move); exact rfl; exact rfl) | ((with_reducible apply Step.assign); exact rfl; exact rfl) | ((with_reducible apply Step.loadL (n := 8)); exact rfl; (focus (decide +kernel)); (focus (decide +kernel)); exact rfl; (focus (exact RdL.new rfl rfl)); exact rfl; exact rfl) | ((with_reducible apply Step.box 0); exact rfl; exact rfl; (focus (kernel_rfl)); exact rfl; (focus (first | (simp only [List.nil_append, List.cons_append, List.set_cons_zero, List.set_cons_succ, iv_set, bv_set, iv_rep, bv_rep]; done) | (simp only [List.nil_append, List.cons_append, List.set_cons_zero, List.set_cons_succ, iv_set, bv_set, iv_rep, bv_rep]; rfl) | rfl)))) | (with_reducible refine AWo.nil ?_) | ((with_reducible apply AW.seq)) | ((with_reducible apply Then.n)) | ((with_reducible apply AW.regL))))
  ((with_reducible apply Step.callX fit); exact rfl; exact Try.func54; exact rfl; exact rfl; exact (costs_ok (hl.old _) (hr.old _) hL hR hu))
  rintro tv m1 ⟨N0, hN0⟩ hT
  have hMN : ∃ N, m1 = m ++ N := ⟨_, by rw [hN0, List.append_assoc]⟩
  clear r0 hN0
  generalize cT u L R = c at *
  obtain ⟨a, cv, b, o, htv, t1, t2, t3, t4, t5, t6, t7⟩ := id hT
  generalize hl' : L.length = l at *
  generalize hr' : R.length = r at *
  subst htv
  (repeat (first | (with_reducible refine AWo.cons ?_) | ((with_reducible refine Step.id ?_); first | ((with_reducible apply Step.move); exact rfl; exact rfl) | ((with_reducible apply Step.assign); exact rfl; exact rfl) | ((with_reducible apply Step.ptrNot); exact rfl; exact rfl; exact un77; exact rfl)) | (with_reducible refine AWo.nil ?_) | ((fail_if_success (with_reducible refine AW.atR (id := 4) ?_)); ((with_reducible apply AW.seq))) | ((with_reducible apply Then.n)) | ((with_reducible apply AW.regL)) | ((with_reducible apply AW.skip)) | ((with_reducible apply AW.condF); exact rfl; (focus (rfl)))))
  rw [List.append_nil]
  refine AW.rebase ?_
  have wt : Low m1.length (.pointer (some ⟨a, 0, none⟩)) := .ptr t1
  refine AW.joinG (fr [(8, .pointer (some ⟨a, 0, none⟩)), (9, .slice (some ⟨m1.length + 0, 0, none⟩) l l), (10, .slice (some ⟨m1.length + 1, 0, none⟩) r r)]) (m1 ++ [some { cells := iv (List.replicate l 0) }, some { cells := iv (List.replicate r 0) }]) ?_ ?_
  · (repeat' (first | ((with_reducible refine Step.id ?_); first | ((with_reducible apply Step.move); exact rfl; exact rfl) | ((with_reducible apply Step.assign); exact rfl; exact rfl) | ((with_reducible apply Step.load); exact rfl; (focus (decide +kernel)); exact rfl; (focus (first | exact t3.old _ | exact t4.old _))) | ((with_reducible apply Step.field (k := 1)); exact rfl; (focus (decide +kernel)); exact rfl) | ((with_reducible apply Step.field (k := 2)); exact rfl; (focus (decide +kernel)); exact rfl) | ((with_reducible apply Step.nilp); exact rfl; exact rfl) | ((with_reducible apply Step.make1 0); exact rfl; exact rfl; exact rfl; exact el27; (focus (omega)); exact rfl; (focus (first | (simp only [List.nil_append, List.cons_append, List.set_cons_zero, List.set_cons_succ, iv_set, bv_set, iv_rep, bv_rep]; done) | (simp only [List.nil_append, List.cons_append, List.set_cons_zero, List.set_cons_succ, iv_set, bv_set, iv_rep, bv_rep]; rfl) | rfl))) | ((with_reducible apply Step.make1 1); exact rfl; exact rfl; exact rfl; exact el27; (focus (omega)); exact rfl; (focus (first | (simp only [List.nil_append, List.cons_append, List.set_cons_zero, List.set_cons_succ, iv_set, bv_set, iv_rep, bv_rep]; done) | (simp only [List.nil_append, List.cons_append, List.set_cons_zero, List.set_cons_succ, iv_set, bv_set, iv_rep, bv_rep]; rfl) | rfl)))) | ((with_reducible apply Then.n)) | ((with_reducible apply AW.drawT fit (T := (.step 0 (.step 1 (.step 2 (.step 5 (.step 6 (.step 7 (.both (.step 3 (.both (.step 4 (.step 8 (.step 10 (.step 9 (.step 11 .done))))) (.step 8 (.both (.step 4 (.step 10 (.step 9 (.step 11 .done)))) (.step 9 (.step 4 (.step 10 (.step 11 .done)))))))) (.step 8 (.both (.step 3 (.both (.step 4 (.step 10 (.step 9 (.step 11 .done)))) (.step 9 (.step 4 (.step 10 (.step 11 .done)))))) (.step 9 (.step 3 (.step 4 (.step 10 (.step 11 .done)))))))))))))))); (focus (decide +kernel))) | ((with_reducible apply AWt.step); exact rfl) | ((with_reducible apply AWt.done)) | refine AWt.both ?_ ?_))
    all_goals first | (refine Gc.perm [0,1] rfl (by decide) ?_ (CellsOk.ren ?_) ?_; (focus (intro p hp; rcases p with _ | _ | p <;> first | rfl | exact absurd hp (lenB (n := 2) rfl))); (focus (repeat (first | exact CellsOk.nil | refine CellsOk.cons (by exact g0_iv _) ?_))); (focus ((repeat (first | exact trivial | (refine And.intro ⟨_, rfl, ?_⟩ ?_; (focus (first | exact Low.sg (by assumption) (by simp) | (refine Ren.slice_sg ?_; (focus (first | (simp; done) | omega | (simp; omega))))))))); done))) | (refine Gc.perm [1,0] rfl (by decide) ?_ (CellsOk.ren ?_) ?_; (focus (intro p hp; rcases p with _ | _ | p <;> first | rfl | exact absurd hp (lenB (n := 2) rfl))); (focus (repeat (first | exact CellsOk.nil | refine CellsOk.cons (by exact g0_iv _) ?_))); (focus ((repeat (first | exact trivial | (refine And.intro ⟨_, rfl, ?_⟩ ?_; (focus (first | exact Low.sg (by assumption) (by simp) | (refine Ren.slice_sg ?_; (focus (first | (simp; done) | omega | (simp; omega))))))))); done)))
  (repeat (first | (with_reducible refine AWo.cons ?_) | ((with_reducible refine Step.id ?_); first | ((with_reducible apply Step.move); exact rfl; exact rfl) | ((with_reducible apply Step.len); exact rfl; (focus (exact Sl.mk (by omega))); (focus (decide +kernel)); exact rfl)) | (with_reducible refine AWo.nil ?_) | ((with_reducible apply AW.seq)) | ((with_reducible apply Then.n)) | ((with_reducible apply AW.regL)) | ((with_reducible apply AW.block))))
  refine AW.loopT (fun rk t L' => ∃ k : Nat, rk = r - k ∧ k ≤ r ∧ L' = [some { cells := iv (List.replicate l 0) }, some { cells := iv (tab (fun x => if x < k then -1 else 0) r) }] ∧ t = [(8, .pointer (some ⟨a, 0, none⟩)), (9, .slice (some ⟨m1.length + 0, 0, none⟩) l l), (10, .slice (some ⟨m1.length + 1, 0, none⟩) r r), (37, .int .i64 (r : Nat)), (38, .int .i64 (k : Nat))])
    ⟨_, _, [some { cells := iv (List.replicate l 0) }, some { cells := iv (List.replicate r 0) }], (Or.inl ⟨rfl, (by repeat (first | exact trivial | (refine And.intro rfl ?_)))⟩), 0, rfl, Nat.zero_le _, by simp only [tab_rep]; simp, rfl⟩ ?_
  rintro rk t L' ⟨k, rfl, hk, rfl, rfl⟩
  rcases Nat.lt_or_ge k r with hkl | hkg
  · (repeat (first | (with_reducible refine AWo.cons ?_) | ((with_reducible refine Step.id ?_); first | ((with_reducible apply Step.move); exact rfl; exact rfl) | ((with_reducible apply Step.assign); exact rfl; exact rfl) | ((with_reducible apply Step.ix1z); exact rfl; (focus (exact Sl.mk (by omega))); exact rfl; (focus (decide +kernel)); exact rfl; (focus (omega))) | ((with_reducible apply Step.add); exact rfl; exact rfl; (focus (omega)); exact rfl) | ((with_reducible apply Step.lss); exact rfl; exact rfl; exact rfl) | ((with_reducible apply Step.store (k := 1)); exact rfl; exact rfl; exact rfl; exact rfl; (focus (decide +kernel)); exact rfl; exact rfl; (focus (first | omega | (simp [iv, bv]; done) | (simp [iv, bv]; omega))); (focus (first | (simp only [List.nil_append, List.cons_append, List.set_cons_zero, List.set_cons_succ, iv_set, bv_set, iv_rep, bv_rep]; done) | (simp only [List.nil_append, List.cons_append, List.set_cons_zero, List.set_cons_succ, iv_set, bv_set, iv_rep, bv_rep]; rfl) | rfl)))) | (with_reducible refine AWo.nil ?_) | ((with_reducible apply AW.seq)) | ((with_reducible apply Then.n)) | ((with_reducible apply AW.regL)) | ((with_reducible apply AW.block)) | ((with_reducible apply InBlk.n)) | ((with_reducible apply AW.skip)) | ((with_reducible apply AW.condT); exact rfl; (focus ((simp only [decide_eq_true_eq, decide_eq_false_iff_not, Bool.not_eq_true', Bool.not_eq_false', Bool.not_true, Bool.not_false]; first | assumption | omega))))))
    exact ⟨_, _, [some { cells := iv (List.replicate l 0) }, some { cells := iv (tab (fun x => if x < k + 1 then -1 else 0) r) }], by omega, by rw [tab_set, fill_step]; exact (Or.inl ⟨rfl, (by repeat (first | exact trivial | (refine And.intro rfl ?_)))⟩), k + 1, rfl, by omega, rfl, rfl⟩
  obtain rfl : k = r := by omega
  rw [fill_all]
  (repeat (first | (with_reducible refine AWo.cons ?_) | ((with_reducible refine Step.id ?_); first | ((with_reducible apply Step.move); exact rfl; exact rfl) | ((with_reducible apply Step.assign); exact rfl; exact rfl) | ((with_reducible apply Step.load); exact rfl; (focus (decide +kernel)); exact rfl; (focus (exact t3.old _))) | ((with_reducible apply Step.field (k := 1)); exact rfl; (focus (decide +kernel)); exact rfl) | ((with_reducible apply Step.lss); exact rfl; exact rfl; exact rfl) | ((with_reducible apply Step.len); exact rfl; (focus (exact Sl.mk (by omega))); (focus (decide +kernel)); exact rfl) | ((with_reducible apply Step.nilp); exact rfl; exact rfl) | ((with_reducible apply Step.make1 2); exact rfl; exact rfl; exact rfl; exact el98; (focus (omega)); exact rfl; (focus (first | (simp only [List.nil_append, List.cons_append, List.set_cons_zero, List.set_cons_succ, iv_set, bv_set, iv_rep, bv_rep]; done) | (simp only [List.nil_append, List.cons_append, List.set_cons_zero, List.set_cons_succ, iv_set, bv_set, iv_rep, bv_rep]; rfl) | rfl)))) | (with_reducible refine AWo.nil ?_) | ((with_reducible apply AW.seq)) | ((with_reducible apply Then.n)) | ((with_reducible apply AW.regL)) | ((with_reducible apply AW.block)) | ((with_reducible apply AW.exit)) | ((with_reducible apply InBlk.hit)) | ((with_reducible apply Then.e)) | ((with_reducible apply AW.condF); exact rfl; (focus ((simp only [decide_eq_true_eq, decide_eq_false_iff_not, Bool.not_eq_true', Bool.not_eq_false', Bool.not_true, Bool.not_false]; first | assumption | omega))))))
  rw [show iv (List.replicate l 0) = iv (tab (fun x => if x < 0 then -1 else 0) l) from by simp only [tab_rep]; simp, ← rwW_zero m1.length l k]
  refine AW.loopT (fun rk t L' => ∃ i : Nat, rk = l - i ∧ i ≤ l ∧ L' = some { cells := iv (tab (fun x => if x < i then -1 else 0) l) } :: some { cells := iv (tab (fun _ => -1) k) } :: some { cells := rwW m1.length l k i } :: List.replicate i (some { cells := bv (tabB (fun _ => false) k) }) ∧
      t = [(8, .pointer (some ⟨a, 0, none⟩)), (9, .slice (some ⟨m1.length + 0, 0, none⟩) l l), (10, .slice (some ⟨m1.length + 1, 0, none⟩) k k), (12, .slice (some ⟨m1.length + 2, 0, none⟩) l l), (51, .int .i64 (l : Nat)), (52, .int .i64 (i : Nat))])
    ⟨_, _, _, (Or.inl ⟨rfl, (by repeat (first | exact trivial | (refine And.intro rfl ?_)))⟩), 0, rfl, Nat.zero_le _, rfl, rfl⟩ ?_
  rintro rk t L' ⟨i, rfl, hi, rfl, rfl⟩
  rcases Nat.lt_or_ge i l with hil | hig
  · (repeat' (first | (with_reducible refine AWo.cons ?_) | ((with_reducible refine Step.id ?_); first | ((with_reducible apply Step.move); exact rfl; exact rfl) | ((with_reducible apply Step.assign); exact rfl; exact rfl) | ((with_reducible apply Step.load); exact rfl; (focus (decide +kernel)); exact rfl; (focus (exact t4.old _))) | ((with_reducible apply Step.ix1z); exact rfl; (focus (exact Sl.mk (by omega))); exact rfl; (focus (decide +kernel)); exact rfl; (focus (omega))) | ((with_reducible apply Step.field (k := 2)); exact rfl; (focus (decide +kernel)); exact rfl) | ((with_reducible apply Step.lss); exact rfl; exact rfl; exact rfl) | ((with_reducible apply Step.nilp); exact rfl; exact rfl) | ((with_reducible apply Step.store (k := 0)); exact rfl; exact rfl; exact rfl; exact rfl; (focus (decide +kernel)); exact rfl; exact rfl; (focus (first | omega | (simp [iv, bv]; done) | (simp [iv, bv]; omega))); (focus (first | (simp only [List.nil_append, List.cons_append, List.set_cons_zero, List.set_cons_succ, iv_set, bv_set, iv_rep, bv_rep]; done) | (simp only [List.nil_append, List.cons_append, List.set_cons_zero, List.set_cons_succ, iv_set, bv_set, iv_rep, bv_rep]; rfl) | rfl)))) | (with_reducible refine AWo.nil ?_) | ((with_reducible apply AW.seq)) | ((with_reducible apply Then.n)) | ((with_reducible apply AW.regL)) | ((with_reducible apply AW.block)) | ((with_reducible apply AW.drawT fit (T := (.step 0 (.step 1 (.step 2 (.step 3 (.step 4 (.step 5 (.step 6 (.step 7 (.step 9 (.both (.step 8 (.step 10 (.step 11 (.step 12 .done)))) (.step 10 (.step 8 (.step 11 (.step 12 .done)))))))))))))))); (focus (decide +kernel))) | ((with_reducible apply AWt.step); exact rfl) | ((with_reducible apply AW.skip)) | ((with_reducible apply AW.condT); exact rfl; (focus ((simp only [decide_eq_true_eq, decide_eq_false_iff_not, Bool.not_eq_true', Bool.not_eq_false', Bool.not_true, Bool.not_false]; first | assumption | omega)))) | refine AWt.both ?_ ?_))
    all_goals
      ((with_reducible apply Step.make1 (k := 3 + i)); (focus (simp; omega)); exact rfl; exact rfl; exact el88; (focus (omega)); exact rfl; exact rfl)
      (repeat (first | (with_reducible refine AWo.cons ?_) | ((with_reducible refine Step.id ?_); first | ((with_reducible apply Step.move); exact rfl; exact rfl) | ((with_reducible apply Step.ix1z); exact rfl; (focus (exact Sl.mk (by omega))); exact rfl; (focus (decide +kernel)); exact rfl; (focus (omega))) | ((with_reducible apply Step.add); exact rfl; exact rfl; (focus (omega)); exact rfl) | ((with_reducible apply Step.store (k := 0)); exact rfl; exact rfl; exact rfl; exact rfl; (focus (decide +kernel)); exact rfl; exact rfl; (focus (first | omega | (simp [iv, bv]; done) | (simp [iv, bv]; omega))); (focus (first | (simp only [List.nil_append, List.cons_append, List.set_cons_zero, List.set_cons_succ, iv_set, bv_set, iv_rep, bv_rep]; done) | (simp only [List.nil_append, List.cons_append, List.set_cons_zero, List.set_cons_succ, iv_set, bv_set, iv_rep, bv_rep]; rfl) | rfl))) | ((with_reducible apply Step.store (k := 2)); exact rfl; exact rfl; exact rfl; exact rfl; (focus (decide +kernel)); exact rfl; exact rfl; (focus (first | omega | (simp [iv, bv]; done) | (simp [iv, bv]; omega))); (focus (first | (simp only [List.nil_append, List.cons_append, List.set_cons_zero, List.set_cons_succ, iv_set, bv_set, iv_rep, bv_rep]; done) | (simp only [List.nil_append, List.cons_append, List.set_cons_zero, List.set_cons_succ, iv_set, bv_set, iv_rep, bv_rep]; rfl) | rfl)))) | (with_reducible refine AWo.nil ?_) | ((with_reducible apply Then.n)) | ((with_reducible apply AW.regL)) | ((with_reducible apply AWt.step); exact rfl) | ((with_reducible apply AWt.done)) | ((with_reducible apply InBlk.n))))
      refine ⟨_, _, some { cells := iv (tab (fun x => if x < i + 1 then -1 else 0) l) } :: some { cells := iv (tab (fun _ => -1) k) } :: some { cells := rwW m1.length l k (i + 1) } :: List.replicate (i + 1) (some { cells := bv (tabB (fun _ => false) k) }), by omega, ?_, i + 1, rfl, by omega, rfl, rfl⟩
      rw [← rwW_set, ← fill_step, ← tab_set, ← tabB_rep, List.replicate_succ']
      exact (Or.inl ⟨rfl, (by repeat (first | exact trivial | (refine And.intro rfl ?_)))⟩)
  obtain rfl : i = l := by omega
  (repeat (first | (with_reducible refine AWo.cons ?_) | ((with_reducible refine Step.id ?_); first | ((with_reducible apply Step.move); exact rfl; exact rfl) | ((with_reducible apply Step.load); exact rfl; (focus (decide +kernel)); exact rfl; (focus (exact t3.old _))) | ((with_reducible apply Step.field (k := 1)); exact rfl; (focus (decide +kernel)); exact rfl) | ((with_reducible apply Step.lss); exact rfl; exact rfl; exact rfl) | ((with_reducible apply Step.nilp); exact rfl; exact rfl)) | (with_reducible refine AWo.nil ?_) | ((with_reducible apply AW.seq)) | ((with_reducible apply Then.n)) | ((with_reducible apply AW.regL)) | ((with_reducible apply AW.exit)) | ((with_reducible apply InBlk.hit)) | ((with_reducible apply Then.e)) | ((with_reducible apply AW.condF); exact rfl; (focus ((simp only [decide_eq_true_eq, decide_eq_false_iff_not, Bool.not_eq_true', Bool.not_eq_false', Bool.not_true, Bool.not_false]; first | assumption | omega))))))
  ((with_reducible apply Step.callN fit (k := 3 + i)); (focus (simp; omega)); exact rfl; exact Try.func55; exact rfl; exact rfl; exact (upTo_ok i (by omega)); exact rfl)
  (repeat (first | (with_reducible refine AWo.cons ?_) | ((with_reducible refine Step.id ?_); ((with_reducible apply Step.assign); exact rfl; exact rfl)) | (with_reducible refine AWo.nil ?_) | ((with_reducible apply AW.seq)) | ((with_reducible apply Then.n)) | ((with_reducible apply AW.block))))
  have hs := si_start (m := m1) (l := i) (r := k)
  simp only [stL] at hs
  generalize m1 ++ _ = M at hs ⊢
  generalize m1.length + 0 = O at hs ⊢
  generalize m1.length + 1 = T at hs ⊢
  generalize m1.length + 2 = W at hs ⊢
  generalize m1.length + (3 + i) = Q at hs ⊢
  generalize (fun i => m1.length + (3 + i)) = P at hs
  have hfn := stF_fin c i k
  refine AW.loopW (fun n t M' => ∃ (A : Nat → Nat → Bool) (mt o : Nat → Int) (st : List Nat) (nn : Nat), SI true m1 M' O T W Q P i k .own 1 o mt A st ∧ GsI c i k ⟨A, mt, st⟩ ∧ gsM i k ⟨A, mt, st⟩ ≤ n ∧ gsRun c k n ⟨A, mt, st⟩ = stF c i k ∧ ORel i o mt ∧ st.length = nn ∧
      t = fr [(8, .pointer (some ⟨a, 0, none⟩)), (9, .slice (some ⟨O, 0, none⟩) i i), (10, .slice (some ⟨T, 0, none⟩) k k), (12, .slice (some ⟨W, 0, none⟩) i i), (14, .slice (some ⟨Q, 0, none⟩) nn i)])
    ⟨gsM i k (gs0 i), _, (by repeat (first | exact trivial | (refine And.intro rfl ?_))), _, _, _, _, _, hs, gsi0 c i k, Nat.le_refl _, rfl, fun x hx => .inl ⟨rfl, fun j => by simp only; omega⟩, by simp, rfl⟩ ?_
  clear hs
  generalize i = l at *
  generalize k = r at *
  rintro n t M' ⟨A, mt, o2, st, nn, hs, hg, hm, hrun, hor, hnn, rfl⟩
  obtain ⟨N, hN⟩ := id hs.low
  have hT' : Tab M' (.pointer (some ⟨a, 0, none⟩)) c l r := by rw [hN]; exact hT.old _
  have t2' : Rd M' a 0 cv := by rw [hN]; exact t2.old _
  have t7' : ∀ i, i < l → ∃ w, Rd M' b (o + i) w ∧ Ints M' w (tab (c i) r) := fun i hi => by
    obtain ⟨w, k1, k2⟩ := t7 i hi
    rw [hN]; exact ⟨w, k1.old _, k2.old _⟩
  have hZ := hs.ln
  rcases List.eq_nil_or_concat st with rfl | ⟨S, i, rfl⟩
  · simp only [List.length_nil] at hnn
    subst hnn
    rw [gsRun_nil] at hrun
    (repeat (first | (with_reducible refine AWo.cons ?_) | ((with_reducible refine Step.id ?_); first | ((with_reducible apply Step.move); exact rfl; exact rfl) | ((with_reducible apply Step.assign); exact rfl; exact rfl) | ((with_reducible apply Step.gtr); exact rfl; exact rfl; exact rfl) | ((with_reducible apply Step.len); exact rfl; (focus (exact Sl.mk (by omega))); (focus (decide +kernel)); exact rfl)) | (with_reducible refine AWo.nil ?_) | ((with_reducible apply AW.seq)) | ((with_reducible apply Then.n)) | ((with_reducible apply AW.regL)) | ((with_reducible apply AW.exit)) | ((with_reducible apply InBlk.hit)) | ((with_reducible apply Then.e)) | ((with_reducible apply AW.condF); exact rfl; (focus (rfl)))))
    (refine AW.ret ?_; (repeat (first | refine Then.r ?_ | refine InBlk.r ?_)))
    obtain ⟨N1, hN1⟩ := hMN
    refine ⟨_, rfl, N1 ++ N, by rw [hN, hN1, List.append_assoc], _, rfl, O, 0, by rw [tab_len]; exact Sl.mk (Nat.le_refl _), (List.getElem?_eq_some_iff.1 (hs.o rfl)).1, fun k hk => ?_⟩
    rw [tab_len] at hk
    rw [← hrun, Nat.zero_add, ← orel_out hg hor, tab_get o2 hk]
    exact hs.rdO hk
  simp only [List.concat_eq_append, List.length_append, List.length_singleton] at hnn hs hg hm hrun hZ
  subst hnn
  obtain ⟨hg', hm'⟩ := gsi_step hg
  obtain ⟨hil, hif⟩ := hg.fr i (by simp)
  simp only at hif
  obtain ⟨n, rfl⟩ : ∃ n', n = n' + 1 := ⟨n - 1, by unfold gsM at hm; simp at hm; omega⟩
  rw [gsRun_snoc] at hrun
  have e1 : ((S.length + 1 : Nat) : Int) - 1 = ((S.length : Nat) : Int) := by omega
  have e2 : ((S.length : Nat) : Int) = ((S.length : Nat) : Int) := rfl
  have rq := hs.rdQ
  obtain ⟨w, k1, rb, ro, w1, w2, w3⟩ := t7' i hil
  rw [tab_len] at w1 w3
  (repeat (first | (with_reducible refine AWo.cons ?_) | ((with_reducible refine Step.id ?_); first | ((with_reducible apply Step.move); exact rfl; exact rfl) | ((with_reducible apply Step.assign); exact rfl; exact rfl) | ((with_reducible apply Step.load); exact rfl; (focus (decide +kernel)); exact rfl; (focus (assumption))) | ((with_reducible apply Step.ix1z); exact rfl; (focus (exact Sl.mk (by omega))); exact rfl; (focus (decide +kernel)); exact rfl; (focus (omega))) | ((with_reducible apply Step.ix1); exact rfl; (focus (assumption)); exact rfl; (focus (decide +kernel)); exact rfl; (focus (omega))) | ((with_reducible apply Step.field0); exact rfl; (focus (decide +kernel)); exact rfl) | ((with_reducible apply Step.subE); exact rfl; exact rfl; (focus (assumption)); (focus (omega)); exact rfl) | ((with_reducible apply Step.gtr); exact rfl; exact rfl; exact rfl) | ((with_reducible apply Step.len); exact rfl; (focus (first | assumption | exact Sl.mk (by omega))); (focus (decide +kernel)); exact rfl) | ((with_reducible apply Step.nilp); exact rfl; exact rfl)) | (with_reducible refine AWo.nil ?_) | ((with_reducible apply AW.seq)) | ((with_reducible apply Then.n)) | ((with_reducible apply AW.regL)) | ((with_reducible apply AW.block)) | ((with_reducible apply AW.skip)) | ((with_reducible apply AW.condT); exact rfl; (focus ((simp only [decide_eq_true_eq, decide_eq_false_iff_not, Bool.not_eq_true', Bool.not_eq_false', Bool.not_true, Bool.not_false]; first | assumption | omega))))))
  refine AW.loopW (fun rk t M2 => ∃ j : Nat, rk = r - j ∧ j ≤ r ∧ M2 = M' ∧ t = fr [(8, .pointer (some ⟨a, 0, none⟩)), (9, .slice (some ⟨O, 0, none⟩) l l), (10, .slice (some ⟨T, 0, none⟩) r r), (12, .slice (some ⟨W, 0, none⟩) l l), (14, .slice (some ⟨Q, 0, none⟩) (S.length + 1) l), (15, .int .i64 (i : Nat)), (16, .int .i64 (bstF (A i) (c i) j)), (87, w), (88, .int .i64 (r : Nat)), (89, .int .i64 (j : Nat))])
    ⟨_, _, (by repeat (first | exact trivial | (refine And.intro rfl ?_))), 0, rfl, Nat.zero_le _, rfl, rfl⟩ ?_
  rintro rk t M' ⟨j, rfl, hj, rfl, rfl⟩
  obtain ⟨b0, hb0⟩ : ∃ b0, bstF (A i) (c i) j = b0 := ⟨_, rfl⟩
  obtain ⟨d1, d2, d3⟩ := bstF_bd (A i) (c i) j
  rw [hb0] at d1 d2 d3 ⊢
  rcases Nat.lt_or_ge j r with hjr | hjg
  · have hb1 : bstF (A i) (c i) (j + 1) = if A i j = false ∧ 0 ≤ c i j ∧ (b0 < 0 ∨ c i j < c i b0.toNat) then ((j : Nat) : Int) else b0 := by rw [← hb0]; rfl
    have q5 := w3 j hjr
    rw [tab_get (c i) hjr] at q5
    have rw1 := hs.rdW hil
    cases ha : A i j with
    | true =>
      have ra := hs.rdA hil hjr ha
      rw [if_neg (by rw [ha]; simp)] at hb1
      (repeat (first | (with_reducible refine AWo.cons ?_) | ((with_reducible refine Step.id ?_); first | ((with_reducible apply Step.gdU); exact rfl; exact rfl) | ((with_reducible apply Step.gdF); exact rfl; exact rfl; (focus (rfl))) | ((with_reducible apply Step.move); exact rfl; exact rfl) | ((with_reducible apply Step.assign); exact rfl; exact rfl) | ((with_reducible apply Step.load); exact rfl; (focus (decide +kernel)); exact rfl; (focus (assumption))) | ((with_reducible apply Step.ix1z); exact rfl; (focus (exact Sl.mk (by omega))); exact rfl; (focus (decide +kernel)); exact rfl; (focus (omega))) | ((with_reducible apply Step.ix1); exact rfl; (focus (assumption)); exact rfl; (focus (decide +kernel)); exact rfl; (focus (omega))) | ((with_reducible apply Step.add); exact rfl; exact rfl; (focus (omega)); exact rfl) | ((with_reducible apply Step.lss); exact rfl; exact rfl; exact rfl) | ((with_reducible apply Step.not); exact rfl; exact rfl) | ((with_reducible apply Step.pickF); exact rfl; exact rfl; exact rfl; exact rfl; (focus (rfl)))) | (with_reducible refine AWo.nil ?_) | ((with_reducible apply AW.seq)) | ((with_reducible apply Then.n)) | ((with_reducible apply AW.regL)) | ((with_reducible apply AW.block)) | ((with_reducible apply InBlk.n)) | ((with_reducible apply AW.skip)) | ((with_reducible apply AW.condT); exact rfl; (focus ((simp only [decide_eq_true_eq, decide_eq_false_iff_not, Bool.not_eq_true', Bool.not_eq_false', Bool.not_true, Bool.not_false]; first | assumption | omega)))) | ((with_reducible apply AW.condF); exact rfl; (focus (rfl)))))
      exact ⟨_, [(8, .pointer (some ⟨a, 0, none⟩)), (9, .slice (some ⟨O, 0, none⟩) l l), (10, .slice (some ⟨T, 0, none⟩) r r), (12, .slice (some ⟨W, 0, none⟩) l l), (14, .slice (some ⟨Q, 0, none⟩) (S.length + 1) l), (15, .int .i64 (i : Nat)), (16, .int .i64 b0), (87, w), (88, .int .i64 (r : Nat)), (89, .int .i64 (j + 1 : Nat))], by omega, (by repeat (first | exact trivial | (refine And.intro rfl ?_))), j + 1, rfl, by omega, rfl, by rw [hb1]⟩
    | false =>
      have ra := hs.rdA hil hjr ha
      by_cases hcn : c i j < 0
      · rw [if_neg (by omega)] at hb1
        (repeat (first | (with_reducible refine AWo.cons ?_) | ((with_reducible refine Step.id ?_); first | ((with_reducible apply Step.gdU); exact rfl; exact rfl) | ((with_reducible apply Step.gdT); exact rfl; exact rfl; (focus (rfl))) | ((with_reducible apply Step.gdF); exact rfl; exact rfl; (focus ((simp only [decide_eq_true_eq, decide_eq_false_iff_not, Bool.not_eq_true', Bool.not_eq_false', Bool.not_true, Bool.not_false]; first | assumption | omega)))) | ((with_reducible apply Step.move); exact rfl; exact rfl) | ((with_reducible apply Step.assign); exact rfl; exact rfl) | ((with_reducible apply Step.load); exact rfl; (focus (decide +kernel)); exact rfl; (focus (assumption))) | ((with_reducible apply Step.ix1z); exact rfl; (focus (exact Sl.mk (by omega))); exact rfl; (focus (decide +kernel)); exact rfl; (focus (omega))) | ((with_reducible apply Step.ix1); exact rfl; (focus (assumption)); exact rfl; (focus (decide +kernel)); exact rfl; (focus (omega))) | ((with_reducible apply Step.add); exact rfl; exact rfl; (focus (omega)); exact rfl) | ((with_reducible apply Step.lss); exact rfl; exact rfl; exact rfl) | ((with_reducible apply Step.geq); exact rfl; exact rfl; exact rfl) | ((with_reducible apply Step.not); exact rfl; exact rfl) | ((with_reducible apply Step.pickT); exact rfl; exact rfl; exact rfl; exact rfl; (focus (rfl))) | ((with_reducible apply Step.pickF); exact rfl; exact rfl; exact rfl; exact rfl; (focus ((simp only [decide_eq_true_eq, decide_eq_false_iff_not, Bool.not_eq_true', Bool.not_eq_false', Bool.not_true, Bool.not_false]; first | assumption | omega))))) | (with_reducible refine AWo.nil ?_) | ((with_reducible apply AW.seq)) | ((with_reducible apply Then.n)) | ((with_reducible apply AW.regL)) | ((with_reducible apply AW.block)) | ((with_reducible apply InBlk.n)) | ((with_reducible apply AW.skip)) | ((with_reducible apply AW.condT); exact rfl; (focus ((simp only [decide_eq_true_eq, decide_eq_false_iff_not, Bool.not_eq_true', Bool.not_eq_false', Bool.not_true, Bool.not_false]; first | assumption | omega)))) | ((with_reducible apply AW.condF); exact rfl; (focus (rfl)))))
        exact ⟨_, [(8, .pointer (some ⟨a, 0, none⟩)), (9, .slice (some ⟨O, 0, none⟩) l l), (10, .slice (some ⟨T, 0, none⟩) r r), (12, .slice (some ⟨W, 0, none⟩) l l), (14, .slice (some ⟨Q, 0, none⟩) (S.length + 1) l), (15, .int .i64 (i : Nat)), (16, .int .i64 b0), (87, w), (88, .int .i64 (r : Nat)), (89, .int .i64 (j + 1 : Nat))], by omega, (by repeat (first | exact trivial | (refine And.intro rfl ?_))), j + 1, rfl, by omega, rfl, by rw [hb1]⟩
      by_cases hbn : b0 < 0
      · rw [if_pos ⟨ha, by omega, .inl hbn⟩] at hb1
        (repeat (first | (with_reducible refine AWo.cons ?_) | ((with_reducible refine Step.id ?_); first | ((with_reducible apply Step.gdT); exact rfl; exact rfl; (focus (first | rfl | (simp only [decide_eq_true_eq, decide_eq_false_iff_not, Bool.not_eq_true', Bool.not_eq_false', Bool.not_true, Bool.not_false]; first | assumption | omega)))) | ((with_reducible apply Step.gdF); exact rfl; exact rfl; (focus ((simp only [decide_eq_true_eq, decide_eq_false_iff_not, Bool.not_eq_true', Bool.not_eq_false', Bool.not_true, Bool.not_false]; first | assumption | omega)))) | ((with_reducible apply Step.move); exact rfl; exact rfl) | ((with_reducible apply Step.assign); exact rfl; exact rfl) | ((with_reducible apply Step.load); exact rfl; (focus (decide +kernel)); exact rfl; (focus (assumption))) | ((with_reducible apply Step.ix1z); exact rfl; (focus (exact Sl.mk (by omega))); exact rfl; (focus (decide +kernel)); exact rfl; (focus (omega))) | ((with_reducible apply Step.ix1); exact rfl; (focus (assumption)); exact rfl; (focus (decide +kernel)); exact rfl; (focus (omega))) | ((with_reducible apply Step.add); exact rfl; exact rfl; (focus (omega)); exact rfl) | ((with_reducible apply Step.lss); exact rfl; exact rfl; exact rfl) | ((with_reducible apply Step.geq); exact rfl; exact rfl; exact rfl) | ((with_reducible apply Step.not); exact rfl; exact rfl) | ((with_reducible apply Step.pickT); exact rfl; exact rfl; exact rfl; exact rfl; (focus (first | rfl | (simp only [decide_eq_true_eq, decide_eq_false_iff_not, Bool.not_eq_true', Bool.not_eq_false', Bool.not_true, Bool.not_false]; first | assumption | omega))))) | (with_reducible refine AWo.nil ?_) | ((with_reducible apply AW.seq)) | ((with_reducible apply Then.n)) | ((with_reducible apply AW.regL)) | ((with_reducible apply AW.block)) | ((with_reducible apply InBlk.n)) | ((with_reducible apply AW.skip)) | ((with_reducible apply AW.condT); exact rfl; (focus (first | rfl | (simp only [decide_eq_true_eq, decide_eq_false_iff_not, Bool.not_eq_true', Bool.not_eq_false', Bool.not_true, Bool.not_false]; first | assumption | omega))))))
        exact ⟨_, [(8, .pointer (some ⟨a, 0, none⟩)), (9, .slice (some ⟨O, 0, none⟩) l l), (10, .slice (some ⟨T, 0, none⟩) r r), (12, .slice (some ⟨W, 0, none⟩) l l), (14, .slice (some ⟨Q, 0, none⟩) (S.length + 1) l), (15, .int .i64 (i : Nat)), (16, .int .i64 (j : Nat)), (87, w), (88, .int .i64 (r : Nat)), (89, .int .i64 (j + 1 : Nat))], by omega, (by repeat (first | exact trivial | (refine And.intro rfl ?_))), j + 1, rfl, by omega, rfl, by rw [hb1]⟩
      obtain ⟨q, rfl⟩ := Int.eq_ofNat_of_zero_le (show 0 ≤ b0 by omega)
      simp only [Int.toNat_natCast] at hb1
      have q6 := w3 q (by omega)
      rw [tab_get (c i) (show q < r by omega)] at q6
      by_cases hlt : c i j < c i q
      · rw [if_pos ⟨ha, by omega, .inr hlt⟩] at hb1
        (repeat (first | (with_reducible refine AWo.cons ?_) | ((with_reducible refine Step.id ?_); first | ((with_reducible apply Step.gdT); exact rfl; exact rfl; (focus (first | rfl | (simp only [decide_eq_true_eq, decide_eq_false_iff_not, Bool.not_eq_true', Bool.not_eq_false', Bool.not_true, Bool.not_false]; first | assumption | omega)))) | ((with_reducible apply Step.move); exact rfl; exact rfl) | ((with_reducible apply Step.assign); exact rfl; exact rfl) | ((with_reducible apply Step.load); exact rfl; (focus (decide +kernel)); exact rfl; (focus (assumption))) | ((with_reducible apply Step.ix1z); exact rfl; (focus (exact Sl.mk (by omega))); exact rfl; (focus (decide +kernel)); exact rfl; (focus (omega))) | ((with_reducible apply Step.ix1); exact rfl; (focus (assumption)); exact rfl; (focus (decide +kernel)); exact rfl; (focus (omega))) | ((with_reducible apply Step.field0); exact rfl; (focus (decide +kernel)); exact rfl) | ((with_reducible apply Step.add); exact rfl; exact rfl; (focus (omega)); exact rfl) | ((with_reducible apply Step.lss); exact rfl; exact rfl; exact rfl) | ((with_reducible apply Step.geq); exact rfl; exact rfl; exact rfl) | ((with_reducible apply Step.not); exact rfl; exact rfl) | ((with_reducible apply Step.nilp); exact rfl; exact rfl) | ((with_reducible apply Step.pickT); exact rfl; exact rfl; exact rfl; exact rfl; (focus (first | rfl | (simp only [decide_eq_true_eq, decide_eq_false_iff_not, Bool.not_eq_true', Bool.not_eq_false', Bool.not_true, Bool.not_false]; first | assumption | omega)))) | ((with_reducible apply Step.pickF); exact rfl; exact rfl; exact rfl; exact rfl; (focus (rfl)))) | (with_reducible refine AWo.nil ?_) | ((with_reducible apply AW.seq)) | ((with_reducible apply Then.n)) | ((with_reducible apply AW.regL)) | ((with_reducible apply AW.block)) | ((with_reducible apply InBlk.n)) | ((with_reducible apply AW.skip)) | ((with_reducible apply AW.condT); exact rfl; (focus ((simp only [decide_eq_true_eq, decide_eq_false_iff_not, Bool.not_eq_true', Bool.not_eq_false', Bool.not_true, Bool.not_false]; first | assumption | omega))))))
        exact ⟨_, [(8, .pointer (some ⟨a, 0, none⟩)), (9, .slice (some ⟨O, 0, none⟩) l l), (10, .slice (some ⟨T, 0, none⟩) r r), (12, .slice (some ⟨W, 0, none⟩) l l), (14, .slice (some ⟨Q, 0, none⟩) (S.length + 1) l), (15, .int .i64 (i : Nat)), (16, .int .i64 (j : Nat)), (87, w), (88, .int .i64 (r : Nat)), (89, .int .i64 (j + 1 : Nat))], by omega, (by repeat (first | exact trivial | (refine And.intro rfl ?_))), j + 1, rfl, by omega, rfl, by rw [hb1]⟩
      · rw [if_neg (by omega)] at hb1
        (repeat (first | (with_reducible refine AWo.cons ?_) | ((with_reducible refine Step.id ?_); first | ((with_reducible apply Step.gdT); exact rfl; exact rfl; (focus (first | rfl | (simp only [decide_eq_true_eq, decide_eq_false_iff_not, Bool.not_eq_true', Bool.not_eq_false', Bool.not_true, Bool.not_false]; first | assumption | omega)))) | ((with_reducible apply Step.move); exact rfl; exact rfl) | ((with_reducible apply Step.assign); exact rfl; exact rfl) | ((with_reducible apply Step.load); exact rfl; (focus (decide +kernel)); exact rfl; (focus (assumption))) | ((with_reducible apply Step.ix1z); exact rfl; (focus (exact Sl.mk (by omega))); exact rfl; (focus (decide +kernel)); exact rfl; (focus (omega))) | ((with_reducible apply Step.ix1); exact rfl; (focus (assumption)); exact rfl; (focus (decide +kernel)); exact rfl; (focus (omega))) | ((with_reducible apply Step.field0); exact rfl; (focus (decide +kernel)); exact rfl) | ((with_reducible apply Step.add); exact rfl; exact rfl; (focus (omega)); exact rfl) | ((with_reducible apply Step.lss); exact rfl; exact rfl; exact rfl) | ((with_reducible apply Step.geq); exact rfl; exact rfl; exact rfl) | ((with_reducible apply Step.not); exact rfl; exact rfl) | ((with_reducible apply Step.nilp); exact rfl; exact rfl) | ((with_reducible apply Step.pickT); exact rfl; exact rfl; exact rfl; exact rfl; (focus (first | rfl | (simp only [decide_eq_true_eq, decide_eq_false_iff_not, Bool.not_eq_true', Bool.not_eq_false', Bool.not_true, Bool.not_false]; first | assumption | omega)))) | ((with_reducible apply Step.pickF); exact rfl; exact rfl; exact rfl; exact rfl; (focus (rfl)))) | (with_reducible refine AWo.nil ?_) | ((with_reducible apply AW.seq)) | ((with_reducible apply Then.n)) | ((with_reducible apply AW.regL)) | ((with_reducible apply AW.block)) | ((with_reducible apply InBlk.n)) | ((with_reducible apply AW.skip)) | ((with_reducible apply AW.condT); exact rfl; (focus ((simp only [decide_eq_true_eq, decide_eq_false_iff_not, Bool.not_eq_true', Bool.not_eq_false', Bool.not_true, Bool.not_false]; first | assumption | omega)))) | ((with_reducible apply AW.condF); exact rfl; (focus ((simp only [decide_eq_true_eq, decide_eq_false_iff_not, Bool.not_eq_true', Bool.not_eq_false', Bool.not_true, Bool.not_false]; first | assumption | omega))))))
        exact ⟨_, [(8, .pointer (some ⟨a, 0, none⟩)), (9, .slice (some ⟨O, 0, none⟩) l l), (10, .slice (some ⟨T, 0, none⟩) r r), (12, .slice (some ⟨W, 0, none⟩) l l), (14, .slice (some ⟨Q, 0, none⟩) (S.length + 1) l), (15, .int .i64 (i : Nat)), (16, .int .i64 (q : Nat)), (87, w), (88, .int .i64 (r : Nat)), (89, .int .i64 (j + 1 : Nat))], by omega, (by repeat (first | exact trivial | (refine And.intro rfl ?_))), j + 1, rfl, by omega, rfl, by rw [hb1]⟩
  obtain rfl : j = r := by omega
  by_cases hb : b0 < 0
  · have hto : gsTo c j A mt S i = ⟨A, mt, S⟩ := by unfold gsTo; rw [hb0, if_pos hb]
    rw [hto] at hg' hm' hrun
    (repeat (first | (with_reducible refine AWo.cons ?_) | ((with_reducible refine Step.id ?_); first | ((with_reducible apply Step.move); exact rfl; exact rfl) | ((with_reducible apply Step.assign); exact rfl; exact rfl) | ((with_reducible apply Step.subE); exact rfl; exact rfl; (focus (assumption)); (focus (omega)); exact rfl) | ((with_reducible apply Step.slTo); exact rfl; exact rfl; (focus (assumption)); (focus (omega)); exact un27; exact sz3; exact rfl) | ((with_reducible apply Step.lss); exact rfl; exact rfl; exact rfl) | ((with_reducible apply Step.len); exact rfl; (focus (exact Sl.mk (by omega))); (focus (decide +kernel)); exact rfl)) | (with_reducible refine AWo.nil ?_) | ((with_reducible apply AW.seq)) | ((with_reducible apply Then.n)) | ((with_reducible apply AW.regL)) | ((with_reducible apply AW.exit)) | ((with_reducible apply InBlk.hit)) | ((with_reducible apply Then.e)) | ((with_reducible apply AW.condT); exact rfl; (focus ((simp only [decide_eq_true_eq, decide_eq_false_iff_not, Bool.not_eq_true', Bool.not_eq_false', Bool.not_true, Bool.not_false]; first | assumption | omega)))) | ((with_reducible apply AW.condF); exact rfl; (focus ((simp only [decide_eq_true_eq, decide_eq_false_iff_not, Bool.not_eq_true', Bool.not_eq_false', Bool.not_true, Bool.not_false]; first | assumption | omega))))))
    exact ⟨n, [(8, .pointer (some ⟨a, 0, none⟩)), (9, .slice (some ⟨O, 0, none⟩) l l), (10, .slice (some ⟨T, 0, none⟩) j j), (12, .slice (some ⟨W, 0, none⟩) l l), (14, .slice (some ⟨Q, 0, none⟩) (S.length) l)], by omega, (by repeat (first | exact trivial | (refine And.intro rfl ?_))), A, mt, o2, S, S.length, hs.pop, hg', by omega, hrun, hor, rfl, rfl⟩
  obtain ⟨q, rfl⟩ := Int.eq_ofNat_of_zero_le (show 0 ≤ b0 by omega)
  simp only [Int.toNat_natCast] at d3
  obtain ⟨d3, d4⟩ := d3 (by omega)
  have hqr : q < j := by omega
  have rw1 := hs.rdW hil
  (repeat (first | (with_reducible refine AWo.cons ?_) | ((with_reducible refine Step.id ?_); first | ((with_reducible apply Step.move); exact rfl; exact rfl) | ((with_reducible apply Step.assign); exact rfl; exact rfl) | ((with_reducible apply Step.load); exact rfl; (focus (decide +kernel)); exact rfl; (focus (assumption))) | ((with_reducible apply Step.ix1z); exact rfl; (focus (exact Sl.mk (by omega))); exact rfl; (focus (decide +kernel)); exact rfl; (focus (omega))) | ((with_reducible apply Step.subE); exact rfl; exact rfl; (focus (assumption)); (focus (omega)); exact rfl) | ((with_reducible apply Step.slTo); exact rfl; exact rfl; (focus (assumption)); (focus (omega)); exact un27; exact sz3; exact rfl) | ((with_reducible apply Step.lss); exact rfl; exact rfl; exact rfl) | ((with_reducible apply Step.len); exact rfl; (focus (exact Sl.mk (by omega))); (focus (decide +kernel)); exact rfl)) | (with_reducible refine AWo.nil ?_) | ((with_reducible apply AW.seq)) | ((with_reducible apply Then.n)) | ((with_reducible apply AW.regL)) | ((with_reducible apply AW.exit)) | ((with_reducible apply InBlk.hit)) | ((with_reducible apply Then.e)) | ((with_reducible apply AW.skip)) | ((with_reducible apply AW.condF); exact rfl; (focus (first | rfl | (simp only [decide_eq_true_eq, decide_eq_false_iff_not, Bool.not_eq_true', Bool.not_eq_false', Bool.not_true, Bool.not_false]; first | assumption | omega))))))
  have h2 := hs.pop.setA hil q
  generalize hM2 : M'.set (P i) _ = M2 at h2
  ((with_reducible apply Step.storeW); exact rfl; exact rfl; exact (hs.rows i hil); (focus (rw [bv_len, tabB_len]; exact hqr)); (focus (decide +kernel)); exact rfl; exact rfl; exact hM2)
  have rt := h2.rdT hqr
  obtain ⟨N2, hN2⟩ := id h2.low
  have t2'' : Rd M2 a 0 cv := by rw [hN2]; exact t2.old _
  have t7'' : ∀ i, i < l → ∃ w, Rd M2 b (o + i) w ∧ Ints M2 w (tab (c i) j) := fun i hi => by
    obtain ⟨w, k1, k2⟩ := t7 i hi
    rw [hN2]; exact ⟨w, k1.old _, k2.old _⟩
  by_cases h0 : 0 ≤ mt q
  · rcases hg.m1 q with e | ⟨k, y1, y2, y3, y4, y5⟩
    · simp only at e; omega
    simp only at y1
    rw [y1] at rt
    (repeat (first | (with_reducible refine AWo.cons ?_) | ((with_reducible refine Step.id ?_); first | ((with_reducible apply Step.move); exact rfl; exact rfl) | ((with_reducible apply Step.assign); exact rfl; exact rfl) | ((with_reducible apply Step.load); exact rfl; (focus (decide +kernel)); exact rfl; (focus (assumption))) | ((with_reducible apply Step.ix1z); exact rfl; (focus (exact Sl.mk (by omega))); exact rfl; (focus (decide +kernel)); exact rfl; (focus (omega)))) | (with_reducible refine AWo.nil ?_) | ((fail_if_success (with_reducible refine AW.atR (id := 30) ?_)); ((with_reducible apply AW.seq))) | ((with_reducible apply Then.n)) | ((with_reducible apply AW.regL))))
    refine AW.rebase ?_
    obtain ⟨v1, x1, xb, xo, z1, z2, z3⟩ := t7'' i hil
    obtain ⟨v2, x1', xb', xo', z1', z2', z3'⟩ := t7'' k y2
    rw [tab_len] at z1 z3 z1' z3'
    have q6 := z3 q hqr
    have q7 := z3' q hqr
    rw [tab_get _ hqr] at q6 q7
    have hp1 := fun T => prefers_ok (m := M2 ++ T) (a := c i q) (j := ((i : Nat) : Int)) (b := c k q) (k := ((k : Nat) : Int))
    cases hpf : prf (c i q) i (c k q) k with
    | false =>
      rw [hpf] at hp1
      have hto : gsTo c j A mt S i = ⟨up2 A i q, mt, S ++ [i]⟩ := by
        unfold gsTo
        rw [hb0, if_neg hb]
        simp only [Int.toNat_natCast]
        rw [y1]
        simp only [Int.toNat_natCast]
        rw [if_pos ⟨by omega, hpf⟩]
      rw [hto] at hg' hm' hrun
      (repeat (first | (with_reducible refine AWo.cons ?_) | ((with_reducible refine Step.id ?_); first | ((with_reducible apply Step.gdT); exact rfl; exact rfl; (focus (rfl))) | ((with_reducible apply Step.move); exact rfl; exact rfl) | ((with_reducible apply Step.load); exact rfl; (focus (decide +kernel)); exact rfl; (focus (exact Rd.old _ (by assumption)))) | ((with_reducible apply Step.ix1); exact rfl; (focus (assumption)); exact rfl; (focus (decide +kernel)); exact rfl; (focus (omega))) | ((with_reducible apply Step.field0); exact rfl; (focus (decide +kernel)); exact rfl) | ((with_reducible apply Step.geq); exact rfl; exact rfl; exact rfl) | ((with_reducible apply Step.not); exact rfl; exact rfl) | ((with_reducible apply Step.nilp); exact rfl; exact rfl) | ((with_reducible apply Step.pickT); exact rfl; exact rfl; exact rfl; exact rfl; (focus (rfl))) | ((with_reducible apply Step.callR fit); exact rfl; exact Try.func71; exact rfl; exact rfl; exact (hp1 _)) | ((with_reducible apply Step.buildS 0); exact rfl; exact rfl; exact (fun _ _ => bs27x); exact rfl; (focus (first | (simp only [List.nil_append, List.cons_append, List.set_cons_zero, List.set_cons_succ, iv_set, bv_set, iv_rep, bv_rep]; done) | (simp only [List.nil_append, List.cons_append, List.set_cons_zero, List.set_cons_succ, iv_set, bv_set, iv_rep, bv_rep]; rfl) | rfl)))) | (with_reducible refine AWo.nil ?_) | ((with_reducible apply AW.seq)) | ((with_reducible apply Then.n)) | ((with_reducible apply AW.regL)) | ((with_reducible apply AW.drawL fit); (focus (decide +kernel))) | ((with_reducible apply AW.condT); exact rfl; (focus (rfl)))))
      obtain ⟨old, Z', hq', hpush⟩ := (h2.old [some { cells := [.int .i64 (i : Nat)] }]).push (by omega)
      have h3 := (hpush i).old [none]
      refine Step.appInG (c := iv (nats S)) (old := [.int .i64 old]) (Z := iv Z') (new := .int .i64 (i : Nat)) rfl rfl el27 un27 hq' rfl rfl (by simp [iv, nats]) rfl (by simp) rfl (by omega) rfl rfl ?_
      (repeat (first | (with_reducible refine AWo.cons ?_) | ((with_reducible refine Step.id ?_); ((with_reducible apply Step.assign); exact rfl; exact rfl)) | (with_reducible refine AWo.nil ?_) | ((with_reducible apply Then.n)) | ((with_reducible apply AW.exit)) | ((with_reducible apply InBlk.hit)) | ((with_reducible apply Then.e))))
      exact ⟨n, [(8, .pointer (some ⟨a, 0, none⟩)), (9, .slice (some ⟨O, 0, none⟩) l l), (10, .slice (some ⟨T, 0, none⟩) j j), (12, .slice (some ⟨W, 0, none⟩) l l), (14, .slice (some ⟨Q, 0, none⟩) (S.length + 1) l)], by omega, (by repeat (first | exact trivial | (refine And.intro rfl ?_))), _, _, _, S ++ [i], S.length + 1, h3, hg', by omega, hrun, hor, by simp, rfl⟩
    | true =>
      rw [hpf] at hp1
      have hto : gsTo c j A mt S i = ⟨up2 A i q, up mt q (i : Nat), S ++ [k]⟩ := by
        unfold gsTo
        rw [hb0, if_neg hb]
        simp only [Int.toNat_natCast]
        rw [y1]
        simp only [Int.toNat_natCast]
        rw [if_neg (by rw [hpf]; simp), if_pos (by omega)]
      rw [hto] at hg' hm' hrun
      (repeat (first | (with_reducible refine AWo.cons ?_) | ((with_reducible refine Step.id ?_); first | ((with_reducible apply Step.gdT); exact rfl; exact rfl; (focus (rfl))) | ((with_reducible apply Step.move); exact rfl; exact rfl) | ((with_reducible apply Step.load); exact rfl; (focus (decide +kernel)); exact rfl; (focus (exact Rd.old _ (by assumption)))) | ((with_reducible apply Step.ix1z); exact rfl; (focus (exact Sl.mk (by omega))); exact rfl; (focus (decide +kernel)); exact rfl; (focus (omega))) | ((with_reducible apply Step.ix1); exact rfl; (focus (assumption)); exact rfl; (focus (decide +kernel)); exact rfl; (focus (omega))) | ((with_reducible apply Step.field0); exact rfl; (focus (decide +kernel)); exact rfl) | ((with_reducible apply Step.geq); exact rfl; exact rfl; exact rfl) | ((with_reducible apply Step.not); exact rfl; exact rfl) | ((with_reducible apply Step.nilp); exact rfl; exact rfl) | ((with_reducible apply Step.pickT); exact rfl; exact rfl; exact rfl; exact rfl; (focus (rfl))) | ((with_reducible apply Step.callR fit); exact rfl; exact Try.func71; exact rfl; exact rfl; exact (hp1 _))) | (with_reducible refine AWo.nil ?_) | ((with_reducible apply AW.seq)) | ((with_reducible apply Then.n)) | ((with_reducible apply AW.regL)) | ((with_reducible apply AW.drawL fit); (focus (decide +kernel))) | ((with_reducible apply AW.skip)) | ((with_reducible apply AW.condT); exact rfl; (focus (rfl))) | ((with_reducible apply AW.condF); exact rfl; (focus (rfl)))))
      have h3 := (h2.old []).setO k (-1)
      generalize hM3 : (M2 ++ []).set O _ = M3 at h3
      ((with_reducible apply Step.storeW); exact rfl; exact rfl; exact ((h2.old []).o rfl); (focus (rw [iv_len, tab_len]; exact y2)); (focus (decide +kernel)); exact rfl; exact rfl; exact hM3)
      (repeat (first | (with_reducible refine AWo.nil ?_) | ((with_reducible apply Then.n))))
      refine AW.rebase ?_
      (repeat (first | (with_reducible refine AWo.cons ?_) | ((with_reducible refine Step.id ?_); first | ((with_reducible apply Step.move); exact rfl; exact rfl) | ((with_reducible apply Step.buildS 0); exact rfl; exact rfl; exact (fun _ _ => bs27x); exact rfl; (focus (first | (simp only [List.nil_append, List.cons_append, List.set_cons_zero, List.set_cons_succ, iv_set, bv_set, iv_rep, bv_rep]; done) | (simp only [List.nil_append, List.cons_append, List.set_cons_zero, List.set_cons_succ, iv_set, bv_set, iv_rep, bv_rep]; rfl) | rfl)))) | ((with_reducible apply AW.regL))))
      obtain ⟨old, Z', hq', hpush⟩ := (h3.old [some { cells := [.int .i64 (k : Nat)] }]).push (by omega)
      have h4 := (hpush k).old [none]
      generalize hM4 : (M3 ++ _).set Q _ ++ [none] = M4 at h4
      refine Step.appInG (c := iv (nats S)) (old := [.int .i64 old]) (Z := iv Z') (new := .int .i64 (k : Nat)) rfl rfl el27 un27 hq' rfl rfl (by simp [iv, nats]) rfl (by simp) rfl (by omega) rfl hM4 ?_
      (repeat (first | (with_reducible refine AWo.cons ?_) | ((with_reducible refine Step.id ?_); first | ((with_reducible apply Step.move); exact rfl; exact rfl) | ((with_reducible apply Step.assign); exact rfl; exact rfl) | ((with_reducible apply Step.ix1z); exact rfl; (focus (exact Sl.mk (by omega))); exact rfl; (focus (decide +kernel)); exact rfl; (focus (omega)))) | (with_reducible refine AWo.nil ?_) | ((with_reducible apply Then.n)) | ((with_reducible apply AW.regL))))
      have h5 := h4.setO i (q : Nat)
      generalize hM5 : M4.set O _ = M5 at h5
      ((with_reducible apply Step.storeW); exact rfl; exact rfl; exact (h4.o rfl); (focus (rw [iv_len, tab_len]; exact hil)); (focus (decide +kernel)); exact rfl; exact rfl; exact hM5)
      (repeat (first | (with_reducible refine AWo.cons ?_) | ((with_reducible refine Step.id ?_); ((with_reducible apply Step.ix1z); exact rfl; (focus (exact Sl.mk (by omega))); exact rfl; (focus (decide +kernel)); exact rfl; (focus (omega))))))
      have h6 := h5.setT q (i : Nat)
      ((with_reducible apply Step.storeW); exact rfl; exact rfl; exact h5.t; (focus (rw [iv_len, tab_len]; exact hqr)); (focus (decide +kernel)); exact rfl; exact rfl; exact rfl)
      (repeat (first | (with_reducible refine AWo.nil ?_) | ((with_reducible apply Then.n)) | ((with_reducible apply InBlk.n))))
      exact ⟨n, [(8, .pointer (some ⟨a, 0, none⟩)), (9, .slice (some ⟨O, 0, none⟩) l l), (10, .slice (some ⟨T, 0, none⟩) j j), (12, .slice (some ⟨W, 0, none⟩) l l), (14, .slice (some ⟨Q, 0, none⟩) (S.length + 1) l)], by omega, (by repeat (first | exact trivial | (refine And.intro rfl ?_))), _, _, _, S ++ [k], S.length + 1, h6, hg', by omega, hrun, orel_swap hor y1 hif hg.inj, by simp, rfl⟩
  · have hmq : mt q = -1 := by
      rcases hg.m1 q with e | ⟨k, y1, _⟩
      · exact e
      · simp only at y1; omega
    rw [hmq] at rt
    (repeat (first | (with_reducible refine AWo.cons ?_) | ((with_reducible refine Step.id ?_); first | ((with_reducible apply Step.move); exact rfl; exact rfl) | ((with_reducible apply Step.assign); exact rfl; exact rfl) | ((with_reducible apply Step.load); exact rfl; (focus (decide +kernel)); exact rfl; (focus (assumption))) | ((with_reducible apply Step.ix1z); exact rfl; (focus (exact Sl.mk (by omega))); exact rfl; (focus (decide +kernel)); exact rfl; (focus (omega)))) | (with_reducible refine AWo.nil ?_) | ((fail_if_success (with_reducible refine AW.atR (id := 30) ?_)); ((with_reducible apply AW.seq))) | ((with_reducible apply Then.n)) | ((with_reducible apply AW.regL))))
    refine AW.rebase ?_
    have hto : gsTo c j A mt S i = ⟨up2 A i q, up mt q (i : Nat), S⟩ := by
      unfold gsTo
      rw [hb0, if_neg hb]
      simp only [Int.toNat_natCast]
      rw [if_neg (by rw [hmq]; omega), if_neg h0, List.append_nil]
    rw [hto] at hg' hm' hrun
    (repeat (first | (with_reducible refine AWo.cons ?_) | ((with_reducible refine Step.id ?_); first | ((with_reducible apply Step.gdF); exact rfl; exact rfl; (focus (rfl))) | ((with_reducible apply Step.move); exact rfl; exact rfl) | ((with_reducible apply Step.ix1z); exact rfl; (focus (exact Sl.mk (by omega))); exact rfl; (focus (decide +kernel)); exact rfl; (focus (omega))) | ((with_reducible apply Step.geq); exact rfl; exact rfl; exact rfl) | ((with_reducible apply Step.pickF); exact rfl; exact rfl; exact rfl; exact rfl; (focus (rfl)))) | (with_reducible refine AWo.nil ?_) | ((with_reducible apply AW.seq)) | ((with_reducible apply Then.n)) | ((with_reducible apply AW.regL)) | ((with_reducible apply AW.drawL fit); (focus (decide +kernel))) | ((with_reducible apply AW.skip)) | ((with_reducible apply AW.condF); exact rfl; (focus (rfl)))))
    have h5 := (h2.old []).setO i (q : Nat)
    generalize hM5 : (M2 ++ []).set O _ = M5 at h5
    ((with_reducible apply Step.storeW); exact rfl; exact rfl; exact ((h2.old []).o rfl); (focus (rw [iv_len, tab_len]; exact hil)); (focus (decide +kernel)); exact rfl; exact rfl; exact hM5)
    (repeat (first | (with_reducible refine AWo.cons ?_) | ((with_reducible refine Step.id ?_); ((with_reducible apply Step.ix1z); exact rfl; (focus (exact Sl.mk (by omega))); exact rfl; (focus (decide +kernel)); exact rfl; (focus (omega))))))
    have h6 := h5.setT q (i : Nat)
    ((with_reducible apply Step.storeW); exact rfl; exact rfl; exact h5.t; (focus (rw [iv_len, tab_len]; exact hqr)); (focus (decide +kernel)); exact rfl; exact rfl; exact rfl)
    (repeat (first | (with_reducible refine AWo.nil ?_) | ((with_reducible apply Then.n)) | ((with_reducible apply InBlk.n))))
    exact ⟨n, [(8, .pointer (some ⟨a, 0, none⟩)), (9, .slice (some ⟨O, 0, none⟩) l l), (10, .slice (some ⟨T, 0, none⟩) j j), (12, .slice (some ⟨W, 0, none⟩) l l), (14, .slice (some ⟨Q, 0, none⟩) (S.length) l)], by omega, (by repeat (first | exact trivial | (refine And.intro rfl ?_))), _, _, _, S, S.length, h6, hg', by omega, hrun, orel_free hor hmq hif, rfl, rfl⟩
end Go.Proofs.Ytajpngnphbdnnaa.Abs
