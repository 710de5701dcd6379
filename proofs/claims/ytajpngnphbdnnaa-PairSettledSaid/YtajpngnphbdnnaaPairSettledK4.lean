/- Proved here: what the proof of PairSettled rests on, part 4 of 5. Conditions: those that each theorem names. -/
import Derived.Test.YtajpngnphbdnnaaPairSettledK3
namespace Go.Proofs.Ytajpngnphbdnnaa.Abs
set_option linter.unusedSimpArgs false
set_option linter.unusedVariables false
open Go.RowKit
open Go.Proofs.Ytajpngnphbdnnaa.Sim
open Go.Proofs
theorem ze24 : zeroB Try.prog 24 = some #[.int .i64 0, .int .i64 0, .int .i64 0, .int .i64 0] := by kernel_rfl
theorem el31 : elemB Try.prog 31 = some (33, 4, 32, #[.int .i64 0, .int .i64 0, .int .i64 0, .int .i64 0]) := by kernel_rfl
theorem un31 : Try.prog.underlying 31 = some (.slice 33) := by kernel_rfl
theorem bs31 {m : AM} {n : Nat} {x : Gl} : abuildSlice Try.prog m n 31 1 [(0, x.v)] = some (.slice (some ⟨n, 0, none⟩) 1 1, m.set n (some { cells := x.cells })) := by cases x; kernel_rfl
def glC (j : List Gl) : List Value := j.flatMap Gl.cells
theorem glC_len (j : List Gl) : (glC j).length = j.length * 4 := by
  induction j with
  | nil => rfl
  | cons x j ih => simp only [glC, List.flatMap_cons, List.length_append] at ih ⊢; rw [ih]; simp [Gl.cells]; omega
theorem g0_glC (j : List Gl) : ∀ v ∈ glC j, g0 v = true := fun v hv => by
  obtain ⟨x, _, hx⟩ := List.mem_flatMap.1 hv
  simp [Gl.cells] at hx
  rcases hx with rfl | rfl | rfl | rfl <;> rfl
theorem glC_snoc (j : List Gl) (k : Nat) (h : k < j.length) : glC (j.take (k + 1)) = glC (j.take k) ++ (j.getD k default).cells := by
  rw [take_snoc j k default h]; simp [glC]
theorem glC_get (j : List Gl) : ∀ (k : Nat), k < j.length → ∀ (i : Nat) (v : Value), (j.getD k default).cells[i]? = some v → (glC j)[k * 4 + i]? = some v := by
  induction j with
  | nil => intro k h; simp at h
  | cons x j ih =>
    intro k h i v hi
    have hc : x.cells.length = 4 := rfl
    simp only [glC, List.flatMap_cons]
    cases k with
    | zero =>
      have : i < 4 := by
        have := (List.getElem?_eq_some_iff.1 hi).1
        simpa [Gl.cells] using this
      rw [List.getElem?_append_left (by omega)]
      simpa using hi
    | succ k =>
      rw [List.getElem?_append_right (by omega), hc, show (k + 1) * 4 + i - 4 = k * 4 + i by omega]
      exact ih k (by simpa using h) i v (by simpa using hi)
theorem gls_new {M L : AM} {k : Nat} {j : List Gl} (hk : k < L.length) (h : L[k]? = some (gb (glC j) 4)) : Gls (M ++ L) (gv (M.length + k) j.length) j := by
  refine ⟨M.length + k, 0, gv_sl _ _, by simp; omega, fun i hi => ?_⟩
  have hp : 0 < (glC j).length := by rw [glC_len]; omega
  rw [gb_pos hp] at h
  refine ⟨_, by rw [get_app]; exact h, fun q v hq => ?_⟩
  rw [Nat.zero_add]; exact glC_get j i hi q v hq
set_option maxRecDepth 100000 in
theorem lside_ok {m : AM} {v : Value} {j : List Gl} (hj : Gls m v j) (hlen : j.length ≤ 9223372036854775807) : ACall Try.prog 21 #[v] m (NewG (glC (j.take 34)) 4 (j.take 34).length m) := by
  obtain ⟨a, o, h1, h2, h3⟩ := hj
  refine ACall.start Try.func21 rfl rfl ?_
  (repeat (first | (with_reducible refine AWo.cons ?_) | ((with_reducible refine Step.id ?_); first | ((with_reducible apply Step.move); exact rfl; exact rfl) | ((with_reducible apply Step.assign); exact rfl; exact rfl) | ((with_reducible apply Step.len); exact rfl; (focus (assumption)); (focus (decide +kernel)); exact rfl)) | (with_reducible refine AWo.nil ?_) | ((with_reducible apply AW.seq)) | ((with_reducible apply Then.n)) | ((with_reducible apply AW.regL)) | ((with_reducible apply AW.block))))
  refine AW.loopT (fun n t L => ∃ k : Nat, n = j.length - k ∧ k ≤ j.length ∧ k ≤ 34 ∧ L = [gb (glC (j.take k)) 4] ∧
    t = [(3, gv (m.length + 0) k), (6, v), (7, .int .i64 (j.length : Nat)), (8, .int .i64 (k : Nat))]) ⟨_, _, _, Back.pad (by repeat (first | exact trivial | (refine And.intro ⟨rfl, by (first | exact .int _ _ | exact Ren.of_gv (by first | (simp; done) | omega | (simp; omega)) | exact Ren.of_sl (by assumption) (by first | omega | (simp; omega)))⟩ ?_))) CellsOk.nil, 0, rfl, Nat.zero_le _, Nat.zero_le _, rfl, rfl⟩ ?_
  rintro n t L ⟨k, rfl, hk, hk2, rfl, rfl⟩
  have fin : ∀ i, i = k → (k = j.length ∨ k = 34) → (gv (m.length + 0) k = gv (m.length + 0) (j.take 34).length ∧ glC (j.take k) = glC (j.take 34)) := fun i _ h => by
    rcases h with h | h
    · subst h
      rw [List.take_of_length_le (show j.length ≤ 34 by omega), List.take_of_length_le (Nat.le_refl _)]; exact ⟨rfl, rfl⟩
    · subst h
      exact ⟨by rw [List.length_take, Nat.min_eq_left hk], rfl⟩
  have g0c := g0_glC (j.take k)
  rcases Nat.lt_or_ge k j.length with hlt | hge
  · by_cases hk3 : (33 : Int) < (k : Int)
    · (repeat (first | (with_reducible refine AWo.cons ?_) | ((with_reducible refine Step.id ?_); first | ((with_reducible apply Step.move); exact rfl; exact rfl) | ((with_reducible apply Step.assign); exact rfl; exact rfl) | ((with_reducible apply Step.loadL (n := 4)); exact rfl; (focus (decide +kernel)); (focus (decide +kernel)); exact rfl; (focus (exact RdL.old _ (h3 _ hlt))); exact rfl; exact rfl) | ((with_reducible apply Step.ix (s := 4)); exact rfl; (focus (assumption)); exact rfl; (focus (decide +kernel)); exact rfl; (focus (omega))) | ((with_reducible apply Step.lss); exact rfl; exact rfl; exact rfl) | ((with_reducible apply Step.gtr); exact rfl; exact rfl; exact rfl) | ((with_reducible apply Step.alloc 1); exact rfl; exact ze24; exact rfl; (focus (first | (simp only [List.nil_append, List.cons_append, List.set_cons_zero, List.set_cons_succ, iv_set, bv_set, iv_rep, bv_rep]; done) | (simp only [List.nil_append, List.cons_append, List.set_cons_zero, List.set_cons_succ, iv_set, bv_set, iv_rep, bv_rep]; rfl) | rfl))) | ((with_reducible apply Step.storeA (k := 1) (n := 4)); exact rfl; exact rfl; exact rfl; exact rfl; (focus (decide +kernel)); exact rfl; (focus (kernel_rfl)); exact rfl; (focus (first | (simp only [List.nil_append, List.cons_append, List.set_cons_zero, List.set_cons_succ, iv_set, bv_set, iv_rep, bv_rep]; done) | (simp only [List.nil_append, List.cons_append, List.set_cons_zero, List.set_cons_succ, iv_set, bv_set, iv_rep, bv_rep]; rfl) | rfl)))) | (with_reducible refine AWo.nil ?_) | ((with_reducible apply AW.seq)) | ((with_reducible apply Then.n)) | ((with_reducible apply AW.regL)) | ((with_reducible apply AW.block)) | ((with_reducible apply AW.exit)) | ((with_reducible apply InBlk.hit)) | ((with_reducible apply InBlk.miss); exact rfl) | ((with_reducible apply Then.e)) | ((with_reducible apply AW.skip)) | ((with_reducible apply AW.condT); exact rfl; (focus ((simp only [decide_eq_true_eq, decide_eq_false_iff_not, Bool.not_eq_true', Bool.not_eq_false', Bool.not_true, Bool.not_false]; first | assumption | omega))))))
      refine AW.retB (l := [(2, _)]) (L1 := [gb (glC (j.take k)) 4]) (Back.trim rfl rfl (by repeat (first | exact CellsOk.nil | refine CellsOk.gb (by assumption) ?_)) (by repeat (first | exact trivial | (refine And.intro ⟨rfl, by (exact Ren.of_gv (by first | (simp; done) | omega | (simp; omega)))⟩ ?_)))) ?_
      obtain ⟨e1, e2⟩ := fin k rfl (.inr (by omega))
      exact ⟨_, rfl, by rw [e1], by rw [e2]⟩
    · have hl := glC_len (j.take k)
      have hlk : (j.take k).length = k := by simp; omega
      rw [hlk] at hl
      have ts := glC_snoc j k hlt
      have g0n := g0_glC (j.take (k + 1))
      (repeat (first | (with_reducible refine AWo.cons ?_) | ((with_reducible refine Step.id ?_); first | ((with_reducible apply Step.move); exact rfl; exact rfl) | ((with_reducible apply Step.assign); exact rfl; exact rfl) | ((with_reducible apply Step.loadL (n := 4)); exact rfl; (focus (decide +kernel)); (focus (decide +kernel)); exact rfl; (focus (first | exact RdL.new rfl rfl | exact RdL.old _ (h3 _ hlt))); exact rfl; exact rfl) | ((with_reducible apply Step.ix (s := 4)); exact rfl; (focus (assumption)); exact rfl; (focus (decide +kernel)); exact rfl; (focus (omega))) | ((with_reducible apply Step.lss); exact rfl; exact rfl; exact rfl) | ((with_reducible apply Step.gtr); exact rfl; exact rfl; exact rfl) | ((with_reducible apply Step.callR fit); exact rfl; exact Try.func29; exact rfl; exact rfl; exact (glove_ok _)) | ((with_reducible apply Step.alloc 1); exact rfl; exact ze24; exact rfl; (focus (first | (simp only [List.nil_append, List.cons_append, List.set_cons_zero, List.set_cons_succ, iv_set, bv_set, iv_rep, bv_rep]; done) | (simp only [List.nil_append, List.cons_append, List.set_cons_zero, List.set_cons_succ, iv_set, bv_set, iv_rep, bv_rep]; rfl) | rfl))) | ((with_reducible apply Step.storeA (k := 1) (n := 4)); exact rfl; exact rfl; exact rfl; exact rfl; (focus (decide +kernel)); exact rfl; (focus (kernel_rfl)); exact rfl; (focus (first | (simp only [List.nil_append, List.cons_append, List.set_cons_zero, List.set_cons_succ, iv_set, bv_set, iv_rep, bv_rep]; done) | (simp only [List.nil_append, List.cons_append, List.set_cons_zero, List.set_cons_succ, iv_set, bv_set, iv_rep, bv_rep]; rfl) | rfl))) | ((with_reducible apply Step.buildS 2); exact rfl; exact rfl; exact (fun _ _ => bs31); exact rfl; (focus (first | (simp only [List.nil_append, List.cons_append, List.set_cons_zero, List.set_cons_succ, iv_set, bv_set, iv_rep, bv_rep]; done) | (simp only [List.nil_append, List.cons_append, List.set_cons_zero, List.set_cons_succ, iv_set, bv_set, iv_rep, bv_rep]; rfl) | rfl)))) | (with_reducible refine AWo.nil ?_) | ((with_reducible apply AW.seq)) | ((with_reducible apply Then.n)) | ((with_reducible apply AW.regL)) | ((with_reducible apply AW.block)) | ((with_reducible apply AW.skip)) | ((with_reducible apply AW.condT); exact rfl; (focus ((simp only [decide_eq_true_eq, decide_eq_false_iff_not, Bool.not_eq_true', Bool.not_eq_false', Bool.not_true, Bool.not_false]; first | assumption | omega)))) | ((with_reducible apply AW.condF); exact rfl; (focus ((simp only [decide_eq_true_eq, decide_eq_false_iff_not, Bool.not_eq_true', Bool.not_eq_false', Bool.not_true, Bool.not_false]; first | assumption | omega))))))
      ((with_reducible apply Step.appG (k := 3)); exact rfl; exact rfl; exact rfl; exact el31; exact un31; exact rfl; exact rfl; exact rfl; exact hl; exact rfl; exact rfl; exact rfl; (focus (omega)); exact rfl; (focus (first | (simp only [List.nil_append, List.cons_append, List.set_cons_zero, List.set_cons_succ, iv_set, bv_set, iv_rep, bv_rep]; done) | (simp only [List.nil_append, List.cons_append, List.set_cons_zero, List.set_cons_succ, iv_set, bv_set, iv_rep, bv_rep]; rfl) | rfl)))
      (repeat (first | (with_reducible refine AWo.cons ?_) | ((with_reducible refine Step.id ?_); first | ((with_reducible apply Step.move); exact rfl; exact rfl) | ((with_reducible apply Step.assign); exact rfl; exact rfl) | ((with_reducible apply Step.add); exact rfl; exact rfl; (focus (omega)); exact rfl)) | (with_reducible refine AWo.nil ?_) | ((with_reducible apply Then.n)) | ((with_reducible apply AW.regL)) | ((with_reducible apply InBlk.n))))
      rw [ts] at g0n
      refine ⟨_, [(3, .slice (some ⟨m.length + 0, 0, none⟩) (k + 1) (k + 1)), (6, v), (7, .int .i64 (j.length : Nat)), (8, .int .i64 (k + 1 : Nat))], [some { cells := glC (j.take k) ++ (j.getD k default).cells, kind := .grow, size := 4 }], by omega, (Back.mv 0 3 rfl rfl rfl rfl (by intro j b hj h; rcases j with _ | _ | _ | _ | _ | _ | j <;> simp_all) (by repeat (first | exact CellsOk.nil | refine CellsOk.cons (by assumption) ?_)) (by repeat (first | exact trivial | (refine And.intro ⟨_, rfl, by (first | exact .int _ _ | exact Ren.slice_mv (by first | (simp; done) | omega | (simp; omega)) | exact Ren.of_sl_ne (by assumption) (by first | omega | (simp; omega)) (by first | omega | (simp; omega)))⟩ ?_)))), k + 1, rfl, by omega, by omega, ?_, ?_⟩
      · rw [ts, gb_pos (by simp [Gl.cells])]
      · rw [gv_pos (by omega)]
  · (repeat (first | (with_reducible refine AWo.cons ?_) | ((with_reducible refine Step.id ?_); first | ((with_reducible apply Step.move); exact rfl; exact rfl) | ((with_reducible apply Step.assign); exact rfl; exact rfl) | ((with_reducible apply Step.lss); exact rfl; exact rfl; exact rfl)) | (with_reducible refine AWo.nil ?_) | ((with_reducible apply AW.seq)) | ((with_reducible apply Then.n)) | ((with_reducible apply AW.regL)) | ((with_reducible apply AW.exit)) | ((with_reducible apply InBlk.hit)) | ((with_reducible apply Then.e)) | ((with_reducible apply AW.condF); exact rfl; (focus ((simp only [decide_eq_true_eq, decide_eq_false_iff_not, Bool.not_eq_true', Bool.not_eq_false', Bool.not_true, Bool.not_false]; first | assumption | omega))))))
    refine AW.retB (l := [(2, _)]) (L1 := [gb (glC (j.take k)) 4]) (Back.trim rfl rfl (by repeat (first | exact CellsOk.nil | refine CellsOk.gb (by assumption) ?_)) (by repeat (first | exact trivial | (refine And.intro ⟨rfl, by (exact Ren.of_gv (by first | (simp; done) | omega | (simp; omega)))⟩ ?_)))) ?_
    obtain ⟨e1, e2⟩ := fin k rfl (.inl (by omega))
    exact ⟨_, rfl, by rw [e1], by rw [e2]⟩
/-- A side that the law hands on. -/
theorem take34 (l : List Gl) : sB (l.take 34) = sB l ∧ (sB l = true → l.take 34 = l) := by
  by_cases h : l.length ≤ 34
  · rw [List.take_of_length_le h]; exact ⟨rfl, fun _ => rfl⟩
  · have h1 : sB (l.take 34) = false := by simp [sB]; omega
    have h2 : sB l = false := by simp [sB]; omega
    rw [h1, h2]; exact ⟨rfl, fun h => by cases h⟩
set_option maxRecDepth 100000 in
theorem Side_ok {m : AM} {v : Value} {l : List Gl} (hl : Gls m v l) (hlen : l.length ≤ 9223372036854775807) {b : Bool} (hb : sB l = b) : ACall Try.prog 61 #[v] m (Ret (.bool b) m) := by
  subst hb
  obtain ⟨a, o, h1, h2, h3⟩ := hl
  refine ACall.start Try.func61 rfl rfl ?_
  by_cases hbig : 32 < l.length
  · (repeat (first | (with_reducible refine AWo.cons ?_) | ((with_reducible refine Step.id ?_); first | ((with_reducible apply Step.move); exact rfl; exact rfl) | ((with_reducible apply Step.assign); exact rfl; exact rfl) | ((with_reducible apply Step.gtr); exact rfl; exact rfl; exact rfl) | ((with_reducible apply Step.len); exact rfl; (focus (assumption)); (focus (decide +kernel)); exact rfl)) | (with_reducible refine AWo.nil ?_) | ((with_reducible apply AW.seq)) | ((with_reducible apply Then.n)) | ((with_reducible apply AW.regL)) | ((with_reducible apply AW.condT); exact rfl; (focus ((simp only [decide_eq_true_eq, decide_eq_false_iff_not, Bool.not_eq_true', Bool.not_eq_false', Bool.not_true, Bool.not_false]; first | assumption | omega))))))
    (refine AW.retD (l := [(2, _)]) (by repeat (first | exact trivial | (refine And.intro ⟨rfl, by (exact .bool _)⟩ ?_))) ?_; (repeat (first | refine Then.r ?_ | refine InBlk.r ?_)))
    exact ⟨_, rfl, by simp [sB]; omega, rfl⟩
  · (repeat (first | (with_reducible refine AWo.cons ?_) | ((with_reducible refine Step.id ?_); first | ((with_reducible apply Step.move); exact rfl; exact rfl) | ((with_reducible apply Step.assign); exact rfl; exact rfl) | ((with_reducible apply Step.gtr); exact rfl; exact rfl; exact rfl) | ((with_reducible apply Step.len); exact rfl; (focus (assumption)); (focus (decide +kernel)); exact rfl)) | (with_reducible refine AWo.nil ?_) | ((with_reducible apply AW.seq)) | ((with_reducible apply Then.n)) | ((with_reducible apply AW.regL)) | ((with_reducible apply AW.block)) | ((with_reducible apply AW.skip)) | ((with_reducible apply AW.condF); exact rfl; (focus ((simp only [decide_eq_true_eq, decide_eq_false_iff_not, Bool.not_eq_true', Bool.not_eq_false', Bool.not_true, Bool.not_false]; first | assumption | omega))))))
    refine AW.loopT (fun n t L => ∃ k : Nat, n = l.length - k ∧ k ≤ l.length ∧ (∀ i, i < k → gB (l.getD i default) = true) ∧ L = [] ∧
      t = [(8, v), (9, .int .i64 (l.length : Nat)), (10, .int .i64 (k : Nat))]) ⟨_, _, _, (Or.inl ⟨rfl, (by repeat (first | exact trivial | (refine And.intro rfl ?_)))⟩), 0, rfl, Nat.zero_le _, by omega, rfl, rfl⟩ ?_
    rintro n t L ⟨k, rfl, hk, hz, rfl, rfl⟩
    rcases Nat.lt_or_ge k l.length with hlt | hge
    · have hv := fun T => valid_ok (m := m ++ T) (l.getD k default) rfl
      cases hg : gB (l.getD k default) with
      | true =>
        rw [hg] at hv
        (repeat (first | (with_reducible refine AWo.cons ?_) | ((with_reducible refine Step.id ?_); first | ((with_reducible apply Step.move); exact rfl; exact rfl) | ((with_reducible apply Step.loadL (n := 4)); exact rfl; (focus (decide +kernel)); (focus (decide +kernel)); exact rfl; (focus (first | exact RdL.new rfl rfl | exact RdL.old _ (h3 _ hlt))); exact rfl; exact rfl) | ((with_reducible apply Step.ix (s := 4)); exact rfl; (focus (assumption)); exact rfl; (focus (decide +kernel)); exact rfl; (focus (omega))) | ((with_reducible apply Step.add); exact rfl; exact rfl; (focus (omega)); exact rfl) | ((with_reducible apply Step.lss); exact rfl; exact rfl; exact rfl) | ((with_reducible apply Step.not); exact rfl; exact rfl) | ((with_reducible apply Step.callR fit); exact rfl; exact Try.func67; exact rfl; exact rfl; exact (hv _)) | ((with_reducible apply Step.alloc 0); exact rfl; exact ze24; exact rfl; (focus (first | (simp only [List.nil_append, List.cons_append, List.set_cons_zero, List.set_cons_succ, iv_set, bv_set, iv_rep, bv_rep]; done) | (simp only [List.nil_append, List.cons_append, List.set_cons_zero, List.set_cons_succ, iv_set, bv_set, iv_rep, bv_rep]; rfl) | rfl))) | ((with_reducible apply Step.storeA (k := 0) (n := 4)); exact rfl; exact rfl; exact rfl; exact rfl; (focus (decide +kernel)); exact rfl; (focus (kernel_rfl)); exact rfl; (focus (first | (simp only [List.nil_append, List.cons_append, List.set_cons_zero, List.set_cons_succ, iv_set, bv_set, iv_rep, bv_rep]; done) | (simp only [List.nil_append, List.cons_append, List.set_cons_zero, List.set_cons_succ, iv_set, bv_set, iv_rep, bv_rep]; rfl) | rfl)))) | (with_reducible refine AWo.nil ?_) | ((with_reducible apply AW.seq)) | ((with_reducible apply Then.n)) | ((with_reducible apply AW.regL)) | ((with_reducible apply AW.block)) | ((with_reducible apply InBlk.n)) | ((with_reducible apply AW.skip)) | ((with_reducible apply AW.condT); exact rfl; (focus ((simp only [decide_eq_true_eq, decide_eq_false_iff_not, Bool.not_eq_true', Bool.not_eq_false', Bool.not_true, Bool.not_false]; first | assumption | omega)))) | ((with_reducible apply AW.condF); exact rfl; (focus (rfl)))))
        refine ⟨_, _, [], ?_, (Back.trim rfl rfl (by repeat (exact CellsOk.nil)) (by repeat (first | exact trivial | (refine And.intro ⟨rfl, by (first | exact .int _ _ | exact Ren.of_sl (by assumption) (by first | omega | (simp; omega)))⟩ ?_)))), k + 1, rfl, by omega, fun i hi => ?_, rfl, rfl⟩
        · omega
        · by_cases e : i = k
          · subst e; exact hg
          · exact hz i (by omega)
      | false =>
        rw [hg] at hv
        have hn : sB l = false := by
          cases e : sB l with
          | false => rfl
          | true =>
            have : l.length ≤ 32 ∧ l.all gB = true := by simpa [sB] using e
            rw [all_getD this.2 hlt] at hg; cases hg
        (repeat (first | (with_reducible refine AWo.cons ?_) | ((with_reducible refine Step.id ?_); first | ((with_reducible apply Step.assign); exact rfl; exact rfl) | ((with_reducible apply Step.loadL (n := 4)); exact rfl; (focus (decide +kernel)); (focus (decide +kernel)); exact rfl; (focus (first | exact RdL.new rfl rfl | exact RdL.old _ (h3 _ hlt))); exact rfl; exact rfl) | ((with_reducible apply Step.ix (s := 4)); exact rfl; (focus (assumption)); exact rfl; (focus (decide +kernel)); exact rfl; (focus (omega))) | ((with_reducible apply Step.lss); exact rfl; exact rfl; exact rfl) | ((with_reducible apply Step.not); exact rfl; exact rfl) | ((with_reducible apply Step.callR fit); exact rfl; exact Try.func67; exact rfl; exact rfl; exact (hv _)) | ((with_reducible apply Step.alloc 0); exact rfl; exact ze24; exact rfl; (focus (first | (simp only [List.nil_append, List.cons_append, List.set_cons_zero, List.set_cons_succ, iv_set, bv_set, iv_rep, bv_rep]; done) | (simp only [List.nil_append, List.cons_append, List.set_cons_zero, List.set_cons_succ, iv_set, bv_set, iv_rep, bv_rep]; rfl) | rfl))) | ((with_reducible apply Step.storeA (k := 0) (n := 4)); exact rfl; exact rfl; exact rfl; exact rfl; (focus (decide +kernel)); exact rfl; (focus (kernel_rfl)); exact rfl; (focus (first | (simp only [List.nil_append, List.cons_append, List.set_cons_zero, List.set_cons_succ, iv_set, bv_set, iv_rep, bv_rep]; done) | (simp only [List.nil_append, List.cons_append, List.set_cons_zero, List.set_cons_succ, iv_set, bv_set, iv_rep, bv_rep]; rfl) | rfl)))) | (with_reducible refine AWo.nil ?_) | ((with_reducible apply AW.seq)) | ((with_reducible apply Then.n)) | ((with_reducible apply AW.regL)) | ((with_reducible apply AW.block)) | ((with_reducible apply AW.skip)) | ((with_reducible apply AW.condT); exact rfl; (focus (first | rfl | (simp only [decide_eq_true_eq, decide_eq_false_iff_not, Bool.not_eq_true', Bool.not_eq_false', Bool.not_true, Bool.not_false]; first | assumption | omega))))))
        (refine AW.retD (l := [(2, _)]) (by repeat (first | exact trivial | (refine And.intro ⟨rfl, by (exact .bool _)⟩ ?_))) ?_; (repeat (first | refine Then.r ?_ | refine InBlk.r ?_)))
        exact ⟨_, rfl, by rw [hn], rfl⟩
    · (repeat (first | (with_reducible refine AWo.cons ?_) | ((with_reducible refine Step.id ?_); first | ((with_reducible apply Step.assign); exact rfl; exact rfl) | ((with_reducible apply Step.lss); exact rfl; exact rfl; exact rfl)) | (with_reducible refine AWo.nil ?_) | ((with_reducible apply AW.seq)) | ((with_reducible apply Then.n)) | ((with_reducible apply AW.regL)) | ((with_reducible apply AW.exit)) | ((with_reducible apply InBlk.hit)) | ((with_reducible apply Then.e)) | ((with_reducible apply AW.condF); exact rfl; (focus ((simp only [decide_eq_true_eq, decide_eq_false_iff_not, Bool.not_eq_true', Bool.not_eq_false', Bool.not_true, Bool.not_false]; first | assumption | omega))))))
      obtain rfl : k = l.length := by omega
      have hy : sB l = true := by
        simp only [sB, Bool.and_eq_true, decide_eq_true_eq, List.all_eq_true]
        refine ⟨by omega, fun x hx => ?_⟩
        obtain ⟨i, hi, rfl⟩ := List.getElem_of_mem hx
        have := hz i hi
        simpa [hi] using this
      (refine AW.retD (l := [(2, _)]) (by repeat (first | exact trivial | (refine And.intro ⟨rfl, by (exact .bool _)⟩ ?_))) ?_; (repeat (first | refine Then.r ?_ | refine InBlk.r ?_)))
      exact ⟨_, rfl, by rw [hy], rfl⟩
set_option maxRecDepth 100000 in
theorem Good_ok {m : AM} {lv rv : Value} {L R : List Gl} {u : Ru} (hl : Gls m lv L) (hr : Gls m rv R) (h1 : L.length ≤ 9223372036854775807) (h2 : R.length ≤ 9223372036854775807) {b : Bool} (hb : (sB L && sB R && uB u) = b) : ACall Try.prog 26 #[lv, rv, u.v] m (Ret (.bool b) m) := by
  subst hb
  have c1 := fun T => Side_ok (hl.old T) h1 rfl
  have c2 := fun T => Side_ok (hr.old T) h2 rfl
  have c3 := fun T => law_ok (m := m ++ T) u rfl
  refine ACall.start Try.func26 rfl rfl ?_
  cases e1 : sB L with
  | false =>
    rw [e1] at c1
    (repeat (first | (with_reducible refine AWo.cons ?_) | ((with_reducible refine Step.id ?_); first | ((with_reducible apply Step.gdF); exact rfl; exact rfl; (focus (rfl))) | ((with_reducible apply Step.move); exact rfl; exact rfl) | ((with_reducible apply Step.assign); exact rfl; exact rfl) | ((with_reducible apply Step.pickF); exact rfl; exact rfl; exact rfl; exact rfl; (focus (rfl))) | ((with_reducible apply Step.callR fit); exact rfl; exact Try.func61; exact rfl; exact rfl; exact (c1 _)) | ((with_reducible apply Step.box 0); exact rfl; exact rfl; (focus (kernel_rfl)); exact rfl; (focus (first | (simp only [List.nil_append, List.cons_append, List.set_cons_zero, List.set_cons_succ, iv_set, bv_set, iv_rep, bv_rep]; done) | (simp only [List.nil_append, List.cons_append, List.set_cons_zero, List.set_cons_succ, iv_set, bv_set, iv_rep, bv_rep]; rfl) | rfl)))) | (with_reducible refine AWo.nil ?_) | ((with_reducible apply AW.seq)) | ((with_reducible apply Then.n)) | ((with_reducible apply AW.regL))))
    (refine AW.retD (l := [(6, _)]) (by repeat (first | exact trivial | (refine And.intro ⟨rfl, by (exact .bool _)⟩ ?_))) ?_; (repeat (first | refine Then.r ?_ | refine InBlk.r ?_)))
    exact ⟨_, rfl, rfl, rfl⟩
  | true =>
    rw [e1] at c1
    cases e2 : sB R with
    | false =>
      rw [e2] at c2
      (repeat (first | (with_reducible refine AWo.cons ?_) | ((with_reducible refine Step.id ?_); first | ((with_reducible apply Step.gdT); exact rfl; exact rfl; (focus (rfl))) | ((with_reducible apply Step.gdF); exact rfl; exact rfl; (focus (rfl))) | ((with_reducible apply Step.move); exact rfl; exact rfl) | ((with_reducible apply Step.assign); exact rfl; exact rfl) | ((with_reducible apply Step.pickT); exact rfl; exact rfl; exact rfl; exact rfl; (focus (rfl))) | ((with_reducible apply Step.pickF); exact rfl; exact rfl; exact rfl; exact rfl; (focus (rfl))) | ((with_reducible apply Step.callR fit); exact rfl; exact Try.func61; exact rfl; exact rfl; exact (c1 _)) | ((with_reducible apply Step.callR fit); exact rfl; exact Try.func61; exact rfl; exact rfl; exact (c2 _)) | ((with_reducible apply Step.box 0); exact rfl; exact rfl; (focus (kernel_rfl)); exact rfl; (focus (first | (simp only [List.nil_append, List.cons_append, List.set_cons_zero, List.set_cons_succ, iv_set, bv_set, iv_rep, bv_rep]; done) | (simp only [List.nil_append, List.cons_append, List.set_cons_zero, List.set_cons_succ, iv_set, bv_set, iv_rep, bv_rep]; rfl) | rfl)))) | (with_reducible refine AWo.nil ?_) | ((with_reducible apply AW.seq)) | ((with_reducible apply Then.n)) | ((with_reducible apply AW.regL))))
      (refine AW.retD (l := [(6, _)]) (by repeat (first | exact trivial | (refine And.intro ⟨rfl, by (exact .bool _)⟩ ?_))) ?_; (repeat (first | refine Then.r ?_ | refine InBlk.r ?_)))
      exact ⟨_, rfl, rfl, rfl⟩
    | true =>
      rw [e2] at c2
      (repeat (first | (with_reducible refine AWo.cons ?_) | ((with_reducible refine Step.id ?_); first | ((with_reducible apply Step.gdT); exact rfl; exact rfl; (focus (rfl))) | ((with_reducible apply Step.move); exact rfl; exact rfl) | ((with_reducible apply Step.assign); exact rfl; exact rfl) | ((with_reducible apply Step.loadL (n := 8)); exact rfl; (focus (decide +kernel)); (focus (decide +kernel)); exact rfl; (focus (exact RdL.new rfl rfl)); exact rfl; exact rfl) | ((with_reducible apply Step.pickT); exact rfl; exact rfl; exact rfl; exact rfl; (focus (rfl))) | ((with_reducible apply Step.callR fit); exact rfl; exact Try.func61; exact rfl; exact rfl; exact (c1 _)) | ((with_reducible apply Step.callR fit); exact rfl; exact Try.func61; exact rfl; exact rfl; exact (c2 _)) | ((with_reducible apply Step.callR fit); exact rfl; exact Try.func62; exact rfl; exact rfl; exact (c3 _)) | ((with_reducible apply Step.box 0); exact rfl; exact rfl; (focus (kernel_rfl)); exact rfl; (focus (first | (simp only [List.nil_append, List.cons_append, List.set_cons_zero, List.set_cons_succ, iv_set, bv_set, iv_rep, bv_rep]; done) | (simp only [List.nil_append, List.cons_append, List.set_cons_zero, List.set_cons_succ, iv_set, bv_set, iv_rep, bv_rep]; rfl) | rfl)))) | (with_reducible refine AWo.nil ?_) | ((with_reducible apply AW.seq)) | ((with_reducible apply Then.n)) | ((with_reducible apply AW.regL))))
      (refine AW.retD (l := [(6, _)]) (by repeat (first | exact trivial | (refine And.intro ⟨rfl, by (exact .bool _)⟩ ?_))) ?_; (repeat (first | refine Then.r ?_ | refine InBlk.r ?_)))
      exact ⟨_, rfl, by simp, rfl⟩
end Go.Proofs.Ytajpngnphbdnnaa.Abs
namespace Go.Proofs.Ytajpngnphbdnnaa.Abs
set_option linter.unusedSimpArgs false
set_option linter.unusedVariables false
open Go.RowKit
open Go.Proofs.Ytajpngnphbdnnaa.Sim
open Go.Proofs
theorem Ren.tupG {ρ : Nat → Nat} {n : Nat} (l : List Value) (h : l.all g0 = true) : Ren ρ n (.tuple l.toArray) (.tuple l.toArray) :=
  .tuple _ _ rfl fun i hi => by
    have hi' : i < l.length := by simpa using hi
    have : l.toArray.getD i undef = l[i] := by simp [hi']
    rw [this]; exact .of_g0 (List.all_eq_true.1 h _ (List.getElem_mem hi'))
/-- What the first k of a pairing come to: which right gloves are taken, how many pairs, their cost. -/
def wgS (c : Nat → Nat → Int) (r : Nat) (M : List Int) : Nat → Option ((Nat → Bool) × Int × Int)
  | 0 => some (fun _ => false, 0, 0)
  | k + 1 => match wgS c r M k with
    | none => none
    | some (tk, s, q) => if M.getD k 0 = -1 then some (tk, s, q) else
      if M.getD k 0 < 0 ∨ (r : Int) ≤ M.getD k 0 ∨ tk (M.getD k 0).toNat = true ∨ c k (M.getD k 0).toNat < 0 then none
      else some (Hung.up tk (M.getD k 0).toNat true, s + 1, q + c k (M.getD k 0).toNat)
theorem wgS_bd {c : Nat → Nat → Int} (hc : Cs c) {r : Nat} {M : List Int} : ∀ {k : Nat} {x : (Nat → Bool) × Int × Int}, wgS c r M k = some x → 0 ≤ x.2.1 ∧ x.2.1 ≤ k ∧ 0 ≤ x.2.2 ∧ x.2.2 ≤ 4000000 * k
  | 0, x, h => by simp only [wgS] at h; injection h with h; subst h; simp
  | k + 1, x, h => by
    simp only [wgS] at h
    cases hk : wgS c r M k with
    | none => rw [hk] at h; cases h
    | some y =>
      obtain ⟨tk, s, q⟩ := y
      have ih := wgS_bd hc hk
      simp only at ih
      rw [hk] at h
      simp only at h
      have := hc k (M.getD k 0).toNat
      split at h
      · injection h with h; subst h; simp only; omega
      · split at h
        · cases h
        · injection h with h; subst h; simp only; omega
theorem wgS_none {c : Nat → Nat → Int} {r : Nat} {M : List Int} {k : Nat} (h : wgS c r M k = none) : ∀ n, wgS c r M (k + n) = none
  | 0 => h
  | n + 1 => by show wgS c r M (k + n + 1) = none; simp only [wgS]; rw [wgS_none h n]
/-- Size, cost and error of a pairing. -/
def wgh (c : Nat → Nat → Int) (l r : Nat) (M : List Int) : Int × Int × Int := if M.length ≠ l then (0, 0, 3) else match wgS c r M l with
  | some (_, s, q) => (s, q, 0)
  | none => (0, 0, 6)
set_option maxHeartbeats 4000000 in
set_option maxRecDepth 100000 in
theorem pairing_ok {m : AM} {tv mv : Value} {c : Nat → Nat → Int} {l r : Nat} {M : List Int} (ht : Tab m tv c l r) (hc : Cs c) (hl : l ≤ 32) (hr : r ≤ 32) (hM : Ints m mv M) (hMl : M.length ≤ 9223372036854775807) {s q e : Int} (hw : wgh c l r M = (s, q, e)) :
    ACall Try.prog 68 #[tv, mv] m (Ret (.tuple #[.int .i64 s, .int .i64 q, .int .i64 e]) m) := by
  obtain ⟨a, cv, b, o, rfl, t1, t2, t3, t4, t5, t6, t7⟩ := id ht
  obtain ⟨ma, mo, m1, m2, m3⟩ := id hM
  refine ACall.start Try.func68 rfl rfl ?_
  unfold wgh at hw
  by_cases hlen : M.length = l
  · rw [if_neg (by omega)] at hw
    subst hlen
    (repeat (first | (with_reducible refine AWo.cons ?_) | ((with_reducible refine Step.id ?_); first | ((with_reducible apply Step.move); exact rfl; exact rfl) | ((with_reducible apply Step.assign); exact rfl; exact rfl) | ((with_reducible apply Step.load); exact rfl; (focus (decide +kernel)); exact rfl; (focus (first | exact t3.old _ | exact t4.old _))) | ((with_reducible apply Step.field (k := 1)); exact rfl; (focus (decide +kernel)); exact rfl) | ((with_reducible apply Step.field (k := 2)); exact rfl; (focus (decide +kernel)); exact rfl) | ((with_reducible apply Step.neq); exact rfl; exact rfl; exact rfl) | ((with_reducible apply Step.len); exact rfl; (focus (assumption)); (focus (decide +kernel)); exact rfl) | ((with_reducible apply Step.nilp); exact rfl; exact rfl) | ((with_reducible apply Step.make1 0); exact rfl; exact rfl; exact rfl; exact el88; (focus (omega)); exact rfl; (focus (first | (simp only [List.nil_append, List.cons_append, List.set_cons_zero, List.set_cons_succ, iv_set, bv_set, iv_rep, bv_rep]; done) | (simp only [List.nil_append, List.cons_append, List.set_cons_zero, List.set_cons_succ, iv_set, bv_set, iv_rep, bv_rep]; rfl) | rfl)))) | (with_reducible refine AWo.nil ?_) | ((with_reducible apply AW.seq)) | ((with_reducible apply Then.n)) | ((with_reducible apply AW.regL)) | ((with_reducible apply AW.block)) | ((with_reducible apply AW.skip)) | ((with_reducible apply AW.condF); exact rfl; (focus ((simp; done))))))
    refine AW.loopT (fun rk t L => ∃ (k : Nat) (tk : Nat → Bool) (s q : Int), rk = M.length - k ∧ k ≤ M.length ∧ wgS c r M k = some (tk, s, q) ∧ L = [some { cells := bv (tabB tk r) }] ∧
      t = [(0, .pointer (some ⟨a, 0, none⟩)), (4, .int .i64 s), (5, .int .i64 q), (7, .slice (some ⟨m.length + 0, 0, none⟩) r r), (22, mv), (23, .int .i64 (M.length : Nat)), (24, .int .i64 (k : Nat))]) ⟨_, _, _, (Or.inl ⟨rfl, (by repeat (first | exact trivial | (refine And.intro rfl ?_)))⟩), 0, fun _ => false, 0, 0, rfl, Nat.zero_le _, rfl, by simp only [tabB_rep], rfl⟩ ?_
    rintro rk t L ⟨k, tk, s0, q0, rfl, hk, hs, rfl, rfl⟩
    rcases Nat.lt_or_ge k M.length with hlt | hge
    · have hrm := m3 k hlt
      have hb := wgS_bd hc hs
      simp only at hb
      have hnx : wgS c r M (k + 1) = if M.getD k 0 = -1 then some (tk, s0, q0) else
          if M.getD k 0 < 0 ∨ (r : Int) ≤ M.getD k 0 ∨ tk (M.getD k 0).toNat = true ∨ c k (M.getD k 0).toNat < 0 then none
          else some (Hung.up tk (M.getD k 0).toNat true, s0 + 1, q0 + c k (M.getD k 0).toNat) := by simp only [wgS, hs]
      have hend : wgS c r M (k + 1) = none → (s, q, e) = (0, 0, 6) := fun h => by
        have := wgS_none h (M.length - (k + 1))
        rw [show k + 1 + (M.length - (k + 1)) = M.length by omega] at this
        rw [this] at hw
        exact hw.symm
      generalize M.getD k 0 = j at *
      by_cases hj1 : j = -1
      · rw [if_pos hj1] at hnx
        (repeat (first | (with_reducible refine AWo.cons ?_) | ((with_reducible refine Step.id ?_); first | ((with_reducible apply Step.move); exact rfl; exact rfl) | ((with_reducible apply Step.assign); exact rfl; exact rfl) | ((with_reducible apply Step.load); exact rfl; (focus (decide +kernel)); exact rfl; (focus (exact hrm.old _))) | ((with_reducible apply Step.ix1); exact rfl; (focus (assumption)); exact rfl; (focus (decide +kernel)); exact rfl; (focus (omega))) | ((with_reducible apply Step.add); exact rfl; exact rfl; (focus (omega)); exact rfl) | ((with_reducible apply Step.lss); exact rfl; exact rfl; exact rfl) | ((with_reducible apply Step.eql); exact rfl; exact rfl; exact rfl)) | (with_reducible refine AWo.nil ?_) | ((with_reducible apply AW.seq)) | ((with_reducible apply Then.n)) | ((with_reducible apply AW.regL)) | ((with_reducible apply AW.block)) | ((with_reducible apply AW.exit)) | ((with_reducible apply InBlk.hit)) | ((with_reducible apply Then.e)) | ((with_reducible apply AW.skip)) | ((with_reducible apply AW.condT); exact rfl; (focus ((simp only [decide_eq_true_eq, decide_eq_false_iff_not, Bool.not_eq_true', Bool.not_eq_false', Bool.not_true, Bool.not_false]; first | assumption | omega))))))
        exact ⟨_, _, _, by omega, (Or.inl ⟨rfl, (by repeat (first | exact trivial | (refine And.intro rfl ?_)))⟩), k + 1, tk, s0, q0, rfl, by omega, hnx, rfl, rfl⟩
      · rw [if_neg hj1] at hnx
        by_cases hj2 : j < 0
        · rw [if_pos (.inl hj2)] at hnx
          have he := hend hnx
          injection he with he1 he2
          injection he2 with he2 he3
          subst he1 he2 he3
          (repeat (first | (with_reducible refine AWo.cons ?_) | ((with_reducible refine Step.id ?_); first | ((with_reducible apply Step.gdF); exact rfl; exact rfl; (focus (first | rfl | (simp only [decide_eq_true_eq, decide_eq_false_iff_not, Bool.not_eq_true', Bool.not_eq_false', Bool.not_true, Bool.not_false]; first | assumption | omega)))) | ((with_reducible apply Step.move); exact rfl; exact rfl) | ((with_reducible apply Step.assign); exact rfl; exact rfl) | ((with_reducible apply Step.load); exact rfl; (focus (decide +kernel)); exact rfl; (focus (exact hrm.old _))) | ((with_reducible apply Step.ix1); exact rfl; (focus (assumption)); exact rfl; (focus (decide +kernel)); exact rfl; (focus (omega))) | ((with_reducible apply Step.lss); exact rfl; exact rfl; exact rfl) | ((with_reducible apply Step.eql); exact rfl; exact rfl; exact rfl) | ((with_reducible apply Step.pickT); exact rfl; exact rfl; exact rfl; exact rfl; (focus (first | rfl | (simp only [decide_eq_true_eq, decide_eq_false_iff_not, Bool.not_eq_true', Bool.not_eq_false', Bool.not_true, Bool.not_false]; first | assumption | omega))))) | (with_reducible refine AWo.nil ?_) | ((with_reducible apply AW.seq)) | ((with_reducible apply Then.n)) | ((with_reducible apply AW.regL)) | ((with_reducible apply AW.block)) | ((with_reducible apply AW.skip)) | ((with_reducible apply AW.condT); exact rfl; (focus (first | rfl | (simp only [decide_eq_true_eq, decide_eq_false_iff_not, Bool.not_eq_true', Bool.not_eq_false', Bool.not_true, Bool.not_false]; first | assumption | omega)))) | ((with_reducible apply AW.condF); exact rfl; (focus ((simp only [decide_eq_true_eq, decide_eq_false_iff_not, Bool.not_eq_true', Bool.not_eq_false', Bool.not_true, Bool.not_false]; first | assumption | omega))))))
          (refine AW.retD (l := [(4, _), (5, _), (6, _)]) (by repeat (first | exact trivial | (refine And.intro ⟨rfl, by (exact .int _ _)⟩ ?_))) ?_; (repeat (first | refine Then.r ?_ | refine InBlk.r ?_)))
          exact ⟨_, rfl, rfl, rfl⟩
        · by_cases hj3 : (r : Int) ≤ j
          · rw [if_pos (.inr (.inl hj3))] at hnx
            have he := hend hnx
            injection he with he1 he2
            injection he2 with he2 he3
            subst he1 he2 he3
            (repeat (first | (with_reducible refine AWo.cons ?_) | ((with_reducible refine Step.id ?_); first | ((with_reducible apply Step.gdT); exact rfl; exact rfl; (focus ((simp only [decide_eq_true_eq, decide_eq_false_iff_not, Bool.not_eq_true', Bool.not_eq_false', Bool.not_true, Bool.not_false]; first | assumption | omega)))) | ((with_reducible apply Step.gdF); exact rfl; exact rfl; (focus (first | rfl | (simp only [decide_eq_true_eq, decide_eq_false_iff_not, Bool.not_eq_true', Bool.not_eq_false', Bool.not_true, Bool.not_false]; first | assumption | omega)))) | ((with_reducible apply Step.move); exact rfl; exact rfl) | ((with_reducible apply Step.assign); exact rfl; exact rfl) | ((with_reducible apply Step.load); exact rfl; (focus (decide +kernel)); exact rfl; (focus (first | exact hrm.old _ | exact t4.old _))) | ((with_reducible apply Step.ix1); exact rfl; (focus (assumption)); exact rfl; (focus (decide +kernel)); exact rfl; (focus (omega))) | ((with_reducible apply Step.field (k := 2)); exact rfl; (focus (decide +kernel)); exact rfl) | ((with_reducible apply Step.lss); exact rfl; exact rfl; exact rfl) | ((with_reducible apply Step.geq); exact rfl; exact rfl; exact rfl) | ((with_reducible apply Step.eql); exact rfl; exact rfl; exact rfl) | ((with_reducible apply Step.nilp); exact rfl; exact rfl) | ((with_reducible apply Step.pickT); exact rfl; exact rfl; exact rfl; exact rfl; (focus (first | rfl | (simp only [decide_eq_true_eq, decide_eq_false_iff_not, Bool.not_eq_true', Bool.not_eq_false', Bool.not_true, Bool.not_false]; first | assumption | omega)))) | ((with_reducible apply Step.pickF); exact rfl; exact rfl; exact rfl; exact rfl; (focus ((simp only [decide_eq_true_eq, decide_eq_false_iff_not, Bool.not_eq_true', Bool.not_eq_false', Bool.not_true, Bool.not_false]; first | assumption | omega))))) | (with_reducible refine AWo.nil ?_) | ((with_reducible apply AW.seq)) | ((with_reducible apply Then.n)) | ((with_reducible apply AW.regL)) | ((with_reducible apply AW.block)) | ((with_reducible apply AW.skip)) | ((with_reducible apply AW.condT); exact rfl; (focus (first | rfl | (simp only [decide_eq_true_eq, decide_eq_false_iff_not, Bool.not_eq_true', Bool.not_eq_false', Bool.not_true, Bool.not_false]; first | assumption | omega)))) | ((with_reducible apply AW.condF); exact rfl; (focus ((simp only [decide_eq_true_eq, decide_eq_false_iff_not, Bool.not_eq_true', Bool.not_eq_false', Bool.not_true, Bool.not_false]; first | assumption | omega))))))
            (refine AW.retD (l := [(4, _), (5, _), (6, _)]) (by repeat (first | exact trivial | (refine And.intro ⟨rfl, by (exact .int _ _)⟩ ?_))) ?_; (repeat (first | refine Then.r ?_ | refine InBlk.r ?_)))
            exact ⟨_, rfl, rfl, rfl⟩
          · obtain ⟨j, rfl⟩ := Int.eq_ofNat_of_zero_le (show 0 ≤ j by omega)
            have hjr : j < r := by omega
            simp only [Int.toNat_natCast] at hnx
            obtain ⟨w, k1, b', o', k2, k3, k4⟩ := t7 k hlt
            rw [tab_len] at k2 k4
            have k5 := k4 j hjr
            rw [tab_get (c k) hjr] at k5
            have hcb := hc k j
            cases htk : tk j with
            | true =>
              rw [if_pos (.inr (.inr (.inl htk)))] at hnx
              have he := hend hnx
              injection he with he1 he2
              injection he2 with he2 he3
              subst he1 he2 he3
              have hrt : ∀ T : AM, Rd (m ++ (some { cells := bv (tabB tk r) } :: T)) (m.length + 0) j (.bool true) := fun T => by rw [← htk, ← tabB_get tk hjr]; exact Rd.new rfl (bv_get (by simp; omega))
              (repeat (first | (with_reducible refine AWo.cons ?_) | ((with_reducible refine Step.id ?_); first | ((with_reducible apply Step.gdT); exact rfl; exact rfl; (focus (first | rfl | (simp only [decide_eq_true_eq, decide_eq_false_iff_not, Bool.not_eq_true', Bool.not_eq_false', Bool.not_true, Bool.not_false]; first | assumption | omega)))) | ((with_reducible apply Step.gdF); exact rfl; exact rfl; (focus (rfl))) | ((with_reducible apply Step.move); exact rfl; exact rfl) | ((with_reducible apply Step.assign); exact rfl; exact rfl) | ((with_reducible apply Step.load); exact rfl; (focus (decide +kernel)); exact rfl; (focus (first | exact hrt _ | exact hrm.old _ | exact t4.old _))) | ((with_reducible apply Step.ix1z); exact rfl; (focus (exact Sl.mk (by omega))); exact rfl; (focus (decide +kernel)); exact rfl; (focus (omega))) | ((with_reducible apply Step.ix1); exact rfl; (focus (assumption)); exact rfl; (focus (decide +kernel)); exact rfl; (focus (omega))) | ((with_reducible apply Step.field (k := 2)); exact rfl; (focus (decide +kernel)); exact rfl) | ((with_reducible apply Step.lss); exact rfl; exact rfl; exact rfl) | ((with_reducible apply Step.geq); exact rfl; exact rfl; exact rfl) | ((with_reducible apply Step.eql); exact rfl; exact rfl; exact rfl) | ((with_reducible apply Step.nilp); exact rfl; exact rfl) | ((with_reducible apply Step.pickT); exact rfl; exact rfl; exact rfl; exact rfl; (focus (rfl))) | ((with_reducible apply Step.pickF); exact rfl; exact rfl; exact rfl; exact rfl; (focus (first | rfl | (simp only [decide_eq_true_eq, decide_eq_false_iff_not, Bool.not_eq_true', Bool.not_eq_false', Bool.not_true, Bool.not_false]; first | assumption | omega))))) | (with_reducible refine AWo.nil ?_) | ((with_reducible apply AW.seq)) | ((with_reducible apply Then.n)) | ((with_reducible apply AW.regL)) | ((with_reducible apply AW.block)) | ((with_reducible apply AW.skip)) | ((with_reducible apply AW.condT); exact rfl; (focus (first | rfl | (simp only [decide_eq_true_eq, decide_eq_false_iff_not, Bool.not_eq_true', Bool.not_eq_false', Bool.not_true, Bool.not_false]; first | assumption | omega)))) | ((with_reducible apply AW.condF); exact rfl; (focus (rfl)))))
              (refine AW.retD (l := [(4, _), (5, _), (6, _)]) (by repeat (first | exact trivial | (refine And.intro ⟨rfl, by (exact .int _ _)⟩ ?_))) ?_; (repeat (first | refine Then.r ?_ | refine InBlk.r ?_)))
              exact ⟨_, rfl, rfl, rfl⟩
            | false =>
              have hrt : ∀ T : AM, Rd (m ++ (some { cells := bv (tabB tk r) } :: T)) (m.length + 0) j (.bool false) := fun T => by rw [← htk, ← tabB_get tk hjr]; exact Rd.new rfl (bv_get (by simp; omega))
              by_cases hcn : c k j < 0
              · rw [if_pos (.inr (.inr (.inr hcn)))] at hnx
                have he := hend hnx
                injection he with he1 he2
                injection he2 with he2 he3
                subst he1 he2 he3
                (repeat (first | (with_reducible refine AWo.cons ?_) | ((with_reducible refine Step.id ?_); first | ((with_reducible apply Step.gdT); exact rfl; exact rfl; (focus (first | rfl | (simp only [decide_eq_true_eq, decide_eq_false_iff_not, Bool.not_eq_true', Bool.not_eq_false', Bool.not_true, Bool.not_false]; first | assumption | omega)))) | ((with_reducible apply Step.move); exact rfl; exact rfl) | ((with_reducible apply Step.assign); exact rfl; exact rfl) | ((with_reducible apply Step.load); exact rfl; (focus (decide +kernel)); exact rfl; (focus (first | exact hrt _ | exact hrm.old _ | exact t4.old _ | exact t2.old _ | exact k1.old _ | exact k5.old _))) | ((with_reducible apply Step.ix1z); exact rfl; (focus (exact Sl.mk (by omega))); exact rfl; (focus (decide +kernel)); exact rfl; (focus (omega))) | ((with_reducible apply Step.ix1); exact rfl; (focus (assumption)); exact rfl; (focus (decide +kernel)); exact rfl; (focus (omega))) | ((with_reducible apply Step.field0); exact rfl; (focus (decide +kernel)); exact rfl) | ((with_reducible apply Step.field (k := 2)); exact rfl; (focus (decide +kernel)); exact rfl) | ((with_reducible apply Step.lss); exact rfl; exact rfl; exact rfl) | ((with_reducible apply Step.geq); exact rfl; exact rfl; exact rfl) | ((with_reducible apply Step.eql); exact rfl; exact rfl; exact rfl) | ((with_reducible apply Step.nilp); exact rfl; exact rfl) | ((with_reducible apply Step.pickF); exact rfl; exact rfl; exact rfl; exact rfl; (focus (first | rfl | (simp only [decide_eq_true_eq, decide_eq_false_iff_not, Bool.not_eq_true', Bool.not_eq_false', Bool.not_true, Bool.not_false]; first | assumption | omega))))) | (with_reducible refine AWo.nil ?_) | ((with_reducible apply AW.seq)) | ((with_reducible apply Then.n)) | ((with_reducible apply AW.regL)) | ((with_reducible apply AW.block)) | ((with_reducible apply AW.skip)) | ((with_reducible apply AW.condT); exact rfl; (focus ((simp only [decide_eq_true_eq, decide_eq_false_iff_not, Bool.not_eq_true', Bool.not_eq_false', Bool.not_true, Bool.not_false]; first | assumption | omega)))) | ((with_reducible apply AW.condF); exact rfl; (focus (rfl)))))
                (refine AW.retD (l := [(4, _), (5, _), (6, _)]) (by repeat (first | exact trivial | (refine And.intro ⟨rfl, by (exact .int _ _)⟩ ?_))) ?_; (repeat (first | refine Then.r ?_ | refine InBlk.r ?_)))
                exact ⟨_, rfl, rfl, rfl⟩
              · rw [if_neg (by rw [htk]; simp; omega)] at hnx
                (repeat (first | (with_reducible refine AWo.cons ?_) | ((with_reducible refine Step.id ?_); first | ((with_reducible apply Step.gdT); exact rfl; exact rfl; (focus (first | rfl | (simp only [decide_eq_true_eq, decide_eq_false_iff_not, Bool.not_eq_true', Bool.not_eq_false', Bool.not_true, Bool.not_false]; first | assumption | omega)))) | ((with_reducible apply Step.move); exact rfl; exact rfl) | ((with_reducible apply Step.assign); exact rfl; exact rfl) | ((with_reducible apply Step.load); exact rfl; (focus (decide +kernel)); exact rfl; (focus (first | exact hrt _ | exact hrm.old _ | exact t4.old _ | exact t2.old _ | exact k1.old _ | exact k5.old _))) | ((with_reducible apply Step.ix1z); exact rfl; (focus (exact Sl.mk (by omega))); exact rfl; (focus (decide +kernel)); exact rfl; (focus (omega))) | ((with_reducible apply Step.ix1); exact rfl; (focus (assumption)); exact rfl; (focus (decide +kernel)); exact rfl; (focus (omega))) | ((with_reducible apply Step.field0); exact rfl; (focus (decide +kernel)); exact rfl) | ((with_reducible apply Step.field (k := 2)); exact rfl; (focus (decide +kernel)); exact rfl) | ((with_reducible apply Step.add); exact rfl; exact rfl; (focus (omega)); exact rfl) | ((with_reducible apply Step.lss); exact rfl; exact rfl; exact rfl) | ((with_reducible apply Step.geq); exact rfl; exact rfl; exact rfl) | ((with_reducible apply Step.eql); exact rfl; exact rfl; exact rfl) | ((with_reducible apply Step.nilp); exact rfl; exact rfl) | ((with_reducible apply Step.pickF); exact rfl; exact rfl; exact rfl; exact rfl; (focus (first | rfl | (simp only [decide_eq_true_eq, decide_eq_false_iff_not, Bool.not_eq_true', Bool.not_eq_false', Bool.not_true, Bool.not_false]; first | assumption | omega)))) | ((with_reducible apply Step.store (k := 0)); exact rfl; exact rfl; exact rfl; exact rfl; (focus (decide +kernel)); exact rfl; exact rfl; (focus (first | omega | (simp [iv, bv]; done) | (simp [iv, bv]; omega))); (focus (first | (simp only [List.nil_append, List.cons_append, List.set_cons_zero, List.set_cons_succ, iv_set, bv_set, iv_rep, bv_rep]; done) | (simp only [List.nil_append, List.cons_append, List.set_cons_zero, List.set_cons_succ, iv_set, bv_set, iv_rep, bv_rep]; rfl) | rfl)))) | (with_reducible refine AWo.nil ?_) | ((with_reducible apply AW.seq)) | ((with_reducible apply Then.n)) | ((with_reducible apply AW.regL)) | ((with_reducible apply AW.block)) | ((with_reducible apply AW.drawL fit); (focus (decide +kernel))) | ((with_reducible apply InBlk.n)) | ((with_reducible apply AW.skip)) | ((with_reducible apply AW.condT); exact rfl; (focus ((simp only [decide_eq_true_eq, decide_eq_false_iff_not, Bool.not_eq_true', Bool.not_eq_false', Bool.not_true, Bool.not_false]; first | assumption | omega)))) | ((with_reducible apply AW.condF); exact rfl; (focus (first | rfl | (simp only [decide_eq_true_eq, decide_eq_false_iff_not, Bool.not_eq_true', Bool.not_eq_false', Bool.not_true, Bool.not_false]; first | assumption | omega))))))
                refine ⟨_, _, _, ?_, (Or.inl ⟨rfl, (by repeat (first | exact trivial | (refine And.intro rfl ?_)))⟩), k + 1, _, s0 + 1, q0 + c k j, rfl, by omega, hnx, by rw [tabB_set], rfl⟩
                omega
    · obtain rfl : k = M.length := by omega
      rw [hs] at hw
      injection hw with he1 he2
      injection he2 with he2 he3
      subst he1 he2 he3
      (repeat (first | (with_reducible refine AWo.cons ?_) | ((with_reducible refine Step.id ?_); first | ((with_reducible apply Step.move); exact rfl; exact rfl) | ((with_reducible apply Step.assign); exact rfl; exact rfl) | ((with_reducible apply Step.lss); exact rfl; exact rfl; exact rfl)) | (with_reducible refine AWo.nil ?_) | ((with_reducible apply AW.seq)) | ((with_reducible apply Then.n)) | ((with_reducible apply AW.regL)) | ((with_reducible apply AW.exit)) | ((with_reducible apply InBlk.hit)) | ((with_reducible apply Then.e)) | ((with_reducible apply AW.condF); exact rfl; (focus ((simp only [decide_eq_true_eq, decide_eq_false_iff_not, Bool.not_eq_true', Bool.not_eq_false', Bool.not_true, Bool.not_false]; first | assumption | omega))))))
      (refine AW.retD (l := [(4, _), (5, _), (6, _)]) (by repeat (first | exact trivial | (refine And.intro ⟨rfl, by (exact .int _ _)⟩ ?_))) ?_; (repeat (first | refine Then.r ?_ | refine InBlk.r ?_)))
      exact ⟨_, rfl, rfl, rfl⟩
  · rw [if_pos hlen] at hw
    injection hw with he1 he2
    injection he2 with he2 he3
    subst he1 he2 he3
    (repeat (first | (with_reducible refine AWo.cons ?_) | ((with_reducible refine Step.id ?_); first | ((with_reducible apply Step.move); exact rfl; exact rfl) | ((with_reducible apply Step.assign); exact rfl; exact rfl) | ((with_reducible apply Step.load); exact rfl; (focus (decide +kernel)); exact rfl; (focus (exact t3.old _))) | ((with_reducible apply Step.field (k := 1)); exact rfl; (focus (decide +kernel)); exact rfl) | ((with_reducible apply Step.neq); exact rfl; exact rfl; exact rfl) | ((with_reducible apply Step.len); exact rfl; (focus (assumption)); (focus (decide +kernel)); exact rfl) | ((with_reducible apply Step.nilp); exact rfl; exact rfl)) | (with_reducible refine AWo.nil ?_) | ((with_reducible apply AW.seq)) | ((with_reducible apply Then.n)) | ((with_reducible apply AW.regL)) | ((with_reducible apply AW.condT); exact rfl; (focus ((simp only [decide_eq_true_eq, decide_eq_false_iff_not, Bool.not_eq_true', Bool.not_eq_false', Bool.not_true, Bool.not_false]; first | assumption | omega))))))
    (refine AW.retD (l := [(4, _), (5, _), (6, _)]) (by repeat (first | exact trivial | (refine And.intro ⟨rfl, by (exact .int _ _)⟩ ?_))) ?_; (repeat (first | refine Then.r ?_ | refine InBlk.r ?_)))
    exact ⟨_, rfl, rfl, rfl⟩
end Go.Proofs.Ytajpngnphbdnnaa.Abs
namespace Go.Proofs.Ytajpngnphbdnnaa.Abs
set_option linter.unusedSimpArgs false
set_option linter.unusedVariables false
open Go.RowKit
open Go.Proofs.Ytajpngnphbdnnaa.Sim
open Go.Proofs
/-- The table as a slice of rows. -/
def RT (m : AM) (v : Value) (c : Nat → Nat → Int) (l r : Nat) : Prop := ∃ b o, Sl v b o l ∧ b < m.length ∧ ∀ i, i < l → ∃ w, Rd m b (o + i) w ∧ Ints m w (tab (c i) r)
theorem RT.old {m : AM} {v : Value} {c : Nat → Nat → Int} {l r : Nat} (L : AM) (h : RT m v c l r) : RT (m ++ L) v c l r := by
  obtain ⟨b, o, h5, h6, h7⟩ := h
  exact ⟨b, o, h5, by simp; omega, fun i hi => by
    obtain ⟨w, k1, k2⟩ := h7 i hi
    exact ⟨w, k1.old L, k2.old L⟩⟩
end Go.Proofs.Ytajpngnphbdnnaa.Abs
namespace Go.Proofs.Ytajpngnphbdnnaa.Abs
set_option linter.unusedSimpArgs false
set_option linter.unusedVariables false
open Go.RowKit
open Go.Proofs.Ytajpngnphbdnnaa.Sim
open Go.Proofs
/-- Two valid sides and a valid rule. -/
def okB (L R : List Gl) (u : Ru) : Bool := sB L && sB R && uB u
theorem okB_iff {L R : List Gl} {u : Ru} (h : okB L R u = true) : sB L = true ∧ sB R = true ∧ uB u = true := by
  simp only [okB, Bool.and_eq_true] at h; exact ⟨h.1.1, h.1.2, h.2⟩
theorem okB_len {L R : List Gl} {u : Ru} (h : okB L R u = true) : L.length ≤ 32 ∧ R.length ≤ 32 := by
  obtain ⟨h1, h2, _⟩ := okB_iff h
  simp only [sB, Bool.and_eq_true, decide_eq_true_eq] at h1 h2
  exact ⟨h1.1, h2.1⟩
def wghR (L R : List Gl) (u : Ru) (M : List Int) : Int × Int × Int := if okB L R u = true then wgh (cT u L R) L.length R.length M else (0, 0, 2)
set_option maxRecDepth 100000 in
theorem Weigh_ok {m : AM} {lv rv mv : Value} {L R : List Gl} {u : Ru} {M : List Int} (hl : Gls m lv L) (hr : Gls m rv R) (h1 : L.length ≤ 100000) (h2 : R.length ≤ 100000) (hM : Ints m mv M) (hMl : M.length ≤ 9223372036854775807) {s q e : Int} (hw : wghR L R u M = (s, q, e)) :
    ACall Try.prog 31 #[lv, rv, u.v, mv] m (Ret (.tuple #[.int .i64 s, .int .i64 q, .int .i64 e]) m) := by
  have r0 : ∀ T : AM, RdL (m ++ (some { cells := u.cells } :: T)) (m.length + 0) 0 u.cells := fun T => RdL.new rfl rfl
  unfold wghR at hw
  cases hok : okB L R u with
  | false =>
    rw [hok, if_neg (by simp)] at hw
    injection hw with he1 he2
    injection he2 with he2 he3
    subst he1 he2 he3
    have hc := fun T => costs_no (hl.old T) (hr.old T) h1 h2 hok
    refine ACall.start Try.func31 rfl rfl ?_
    (repeat (first | (with_reducible refine AWo.cons ?_) | ((with_reducible refine Step.id ?_); first | ((with_reducible apply Step.move); exact rfl; exact rfl) | ((with_reducible apply Step.assign); exact rfl; exact rfl) | ((with_reducible apply Step.loadL (n := 8)); exact rfl; (focus (decide +kernel)); (focus (decide +kernel)); exact rfl; (focus (exact RdL.new rfl rfl)); exact rfl; exact rfl) | ((with_reducible apply Step.ptrNil); exact rfl; exact rfl; exact un77; exact rfl) | ((with_reducible apply Step.callR fit); exact rfl; exact Try.func54; exact rfl; exact rfl; exact (hc _)) | ((with_reducible apply Step.box 0); exact rfl; exact rfl; (focus (kernel_rfl)); exact rfl; (focus (first | (simp only [List.nil_append, List.cons_append, List.set_cons_zero, List.set_cons_succ, iv_set, bv_set, iv_rep, bv_rep]; done) | (simp only [List.nil_append, List.cons_append, List.set_cons_zero, List.set_cons_succ, iv_set, bv_set, iv_rep, bv_rep]; rfl) | rfl)))) | (with_reducible refine AWo.nil ?_) | ((with_reducible apply AW.seq)) | ((with_reducible apply Then.n)) | ((with_reducible apply AW.regL)) | ((with_reducible apply AW.condT); exact rfl; (focus (rfl)))))
    (refine AW.retD (l := [(8, _), (9, _), (10, _)]) (by repeat (first | exact trivial | (refine And.intro ⟨rfl, by (exact .int _ _)⟩ ?_))) ?_; (repeat (first | refine Then.r ?_ | refine InBlk.r ?_)))
    exact ⟨_, rfl, rfl, rfl⟩
  | true =>
    rw [hok, if_pos rfl] at hw
    obtain ⟨k1, k2, k3⟩ := okB_iff hok
    obtain ⟨k4, k5⟩ := okB_len hok
    have hcs := cT_cs k3 k1 k2
    refine ACall.drop (Ren.tupG [_, _, _] rfl) ?_
    refine ACall.start Try.func31 rfl rfl ?_
    (repeat (first | (with_reducible refine AWo.cons ?_) | ((with_reducible refine Step.id ?_); first | ((with_reducible apply Step.move); exact rfl; exact rfl) | ((with_reducible apply Step.assign); exact rfl; exact rfl) | ((with_reducible apply Step.loadL (n := 8)); exact rfl; (focus (decide +kernel)); (focus (decide +kernel)); exact rfl; (focus (exact RdL.new rfl rfl)); exact rfl; exact rfl) | ((with_reducible apply Step.box 0); exact rfl; exact rfl; (focus (kernel_rfl)); exact rfl; (focus (first | (simp only [List.nil_append, List.cons_append, List.set_cons_zero, List.set_cons_succ, iv_set, bv_set, iv_rep, bv_rep]; done) | (simp only [List.nil_append, List.cons_append, List.set_cons_zero, List.set_cons_succ, iv_set, bv_set, iv_rep, bv_rep]; rfl) | rfl)))) | (with_reducible refine AWo.nil ?_) | ((with_reducible apply AW.seq)) | ((with_reducible apply Then.n)) | ((with_reducible apply AW.regL))))
    ((with_reducible apply Step.callX fit); exact rfl; exact Try.func54; exact rfl; exact rfl; exact (costs_ok (hl.old _) (hr.old _) k1 k2 k3))
    rintro tv M1 ⟨N, hN⟩ hT
    have hM1 : Ints M1 mv M := by rw [hN]; exact (hM.old _).old _
    have hpre : ∃ N', M1 = m ++ N' := ⟨_, by rw [hN, List.append_assoc]⟩
    clear hN
    have hp := fun T => pairing_ok (hT.old T) hcs k4 k5 (hM1.old T) hMl hw
    obtain ⟨a, cv, b, o, rfl, _⟩ := id hT
    (repeat (first | (with_reducible refine AWo.cons ?_) | ((with_reducible refine Step.id ?_); first | ((with_reducible apply Step.move); exact rfl; exact rfl) | ((with_reducible apply Step.assign); exact rfl; exact rfl) | ((with_reducible apply Step.ptrNot); exact rfl; exact rfl; exact un77; exact rfl) | ((with_reducible apply Step.extract); exact rfl; exact rfl; exact rfl) | ((with_reducible apply Step.callR fit); exact rfl; exact Try.func68; exact rfl; exact rfl; exact (hp _))) | (with_reducible refine AWo.nil ?_) | ((with_reducible apply AW.seq)) | ((with_reducible apply Then.n)) | ((with_reducible apply AW.regL)) | ((with_reducible apply AW.skip)) | ((with_reducible apply AW.condF); exact rfl; (focus (rfl)))))
    (refine AW.ret ?_; (repeat (first | refine Then.r ?_ | refine InBlk.r ?_)))
    obtain ⟨N', rfl⟩ := hpre
    exact ⟨_, rfl, rfl, _, by rw [List.append_assoc]⟩
theorem okB34 (L R : List Gl) (u : Ru) : okB (L.take 34) (R.take 34) u = okB L R u := by
  unfold okB; rw [(take34 L).1, (take34 R).1]
theorem cT34 {L R : List Gl} {u : Ru} (h : okB L R u = true) : L.take 34 = L ∧ R.take 34 = R := by
  obtain ⟨k1, k2, _⟩ := okB_iff h
  exact ⟨(take34 L).2 k1, (take34 R).2 k2⟩
end Go.Proofs.Ytajpngnphbdnnaa.Abs
namespace Go.Proofs.Ytajpngnphbdnnaa.Hung
set_option linter.unusedSimpArgs false
set_option linter.unusedVariables false
def Ed (c : Nat → Nat → Int) (l r : Nat) (gl gr : Nat → Bool) (i j : Nat) : Prop := i < l ∧ j < r ∧ gl i = false ∧ gr j = false ∧ 0 ≤ c i j
def Wt (c : Nat → Nat → Int) (i j : Nat) : Int := 1000000000 - c i j
/-- What a way gains up to a left glove. -/
def stI (c : Nat → Nat → Int) (gain to : Nat → Int) (i : Nat) : Int := if 0 ≤ to i then gain (to i).toNat - Wt c i (to i).toNat else 0
structure Mt (c : Nat → Nat → Int) (l r : Nat) (gl gr : Nat → Bool) (of to : Nat → Int) : Prop where
  t1 : ∀ i, i < l → to i = -1 ∨ ∃ j : Nat, to i = j ∧ Ed c l r gl gr i j ∧ of j = i
  o1 : ∀ j, j < r → of j = -1 ∨ ∃ i : Nat, of j = i ∧ Ed c l r gl gr i j ∧ to i = j
structure Pc (c : Nat → Nat → Int) (l r : Nat) (gl gr : Nat → Bool) (of to a b : Nat → Int) (A : Int) : Prop where
  A0 : 0 ≤ A
  aA : ∀ i, i < l → gl i = false → A ≤ a i ∧ (to i = -1 → a i = A)
  b0 : ∀ j, j < r → gr j = false → 0 ≤ b j ∧ (of j = -1 → b j = 0)
  fe : ∀ i j, Ed c l r gl gr i j → Wt c i j ≤ a i + b j
  ti : ∀ (i j : Nat), i < l → to i = j → a i + b j = Wt c i j
  bA : A ≤ 1000000000
section
variable {c : Nat → Nat → Int} {l r : Nat} {gl gr : Nat → Bool} {of to a b gain : Nat → Int} {fm tau : Nat → Nat} {rl : List Nat} {T : Nat} {A : Int}
/-- How much less than the prices allow the way to a right glove gains. -/
def xs (A : Int) (b gain : Nat → Int) (j : Nat) : Int := A + b j - gain j
/-- The ways found so far: rl are the right gloves that are reached. -/
structure Wy (c : Nat → Nat → Int) (l r : Nat) (gl gr : Nat → Bool) (to b : Nat → Int) (A : Int) (gain : Nat → Int) (fm : Nat → Nat) (rl : List Nat) (tau : Nat → Nat) (T : Nat) : Prop where
  nd : rl.Nodup
  rr : ∀ j ∈ rl, j < r
  un : ∀ j, j < r → j ∉ rl → gain j = -1152921504606846976
  lo : ∀ j ∈ rl, -1000000000 * (rl.length : Int) ≤ gain j
  hi : ∀ j ∈ rl, gain j ≤ A + b j
  ed : ∀ j ∈ rl, Ed c l r gl gr (fm j) j ∧ to (fm j) ≠ j
  ub : ∀ j ∈ rl, gain j ≤ stI c gain to (fm j) + Wt c (fm j) j
  pa : ∀ j ∈ rl, to (fm j) = -1 ∨ ∃ p : Nat, to (fm j) = p ∧ p ∈ rl ∧ (xs A b gain p < xs A b gain j ∨ (xs A b gain p = xs A b gain j ∧ tau p < tau j))
  ta : ∀ j, tau j < T
theorem Wy.start (to b : Nat → Int) (A : Int) (fm : Nat → Nat) : Wy c l r gl gr to b A (fun _ => -1152921504606846976) fm [] (fun _ => 0) 1 :=
  ⟨List.nodup_nil, fun _ h => (by cases h), fun _ _ _ => rfl, fun _ h => (by cases h), fun _ h => (by cases h), fun _ h => (by cases h), fun _ h => (by cases h), fun _ h => (by cases h), fun _ => by omega⟩
theorem Wy.len (h : Wy c l r gl gr to b A gain fm rl tau T) : rl.length ≤ r := by
  have := nodup_le h.nd (k := List.range r) fun x hx => List.mem_range.2 (h.rr x hx)
  simpa using this
/-- A left glove from which a way may go on. -/
def Rd (to : Nat → Int) (rl : List Nat) (i : Nat) : Prop := to i = -1 ∨ ∃ p : Nat, to i = p ∧ p ∈ rl
theorem st_free {i : Nat} (h : to i = -1) : stI c gain to i = 0 := if_neg (by omega)
theorem st_at {i p : Nat} (h : to i = p) : stI c gain to i = gain p - Wt c i p := by
  unfold stI
  rw [h, if_pos (by omega), Int.toNat_natCast]
theorem st_le (hP : Pc c l r gl gr of to a b A) (hW : Wy c l r gl gr to b A gain fm rl tau T) {i : Nat} (hi : i < l) (hg : gl i = false) (hR : Rd to rl i) : stI c gain to i ≤ A - a i := by
  rcases hR with h | ⟨p, h, hp⟩
  · rw [st_free h, (hP.aA i hi hg).2 h]; omega
  · rw [st_at h]
    have := hP.ti i p hi h
    have := hW.hi p hp
    omega
theorem Wy.step (hW : Wy c l r gl gr to b A gain fm rl tau T) (hP : Pc c l r gl gr of to a b A) (hinj : ∀ (i i' j : Nat), i < l → i' < l → to i = j → to i' = j → i = i') {i j : Nat} (he : Ed c l r gl gr i j) (hne : to i ≠ j) (hR : Rd to rl i) (hlt : gain j < stI c gain to i + Wt c i j)
    (hlb : -1000000000 * (rl.length : Int) ≤ stI c gain to i + 1000000000) (hw : 0 ≤ Wt c i j) :
    Wy c l r gl gr to b A (up gain j (stI c gain to i + Wt c i j)) (up fm j i) (if j ∈ rl then rl else j :: rl) (up tau j T) (T + 1) := by
  have hst := st_le hP hW he.1 he.2.2.1 hR
  have hfe := hP.fe i j he
  generalize hs : stI c gain to i = s at *
  have hmem : ∀ q, q ∈ (if j ∈ rl then rl else j :: rl) ↔ q = j ∨ q ∈ rl := fun q => by
    split
    · rename_i h
      exact ⟨.inr, fun h' => h'.elim (fun e => e ▸ h) id⟩
    · simp
  have hlen : (rl.length : Int) ≤ ((if j ∈ rl then rl else j :: rl).length : Nat) := by
    split
    · omega
    · simp only [List.length_cons]; omega
  have gup : ∀ q, q ≠ j → up gain j (s + Wt c i j) q = gain q := fun q h => up_ne _ _ h
  have fup : ∀ q, q ≠ j → up fm j i q = fm q := fun q h => up_ne _ _ h
  have xne : ∀ q, q ≠ j → xs A b (up gain j (s + Wt c i j)) q = xs A b gain q := fun q h => by unfold xs; rw [gup q h]
  have xj : xs A b (up gain j (s + Wt c i j)) j < xs A b gain j := by unfold xs; rw [up_same]; omega
  have stm : ∀ q, stI c gain to q ≤ stI c (up gain j (s + Wt c i j)) to q := fun q => by
    unfold stI
    split
    · by_cases e : (to q).toNat = j
      · rw [e, up_same]; omega
      · rw [gup _ e]; exact Int.le_refl _
    · exact Int.le_refl _
  have stj : stI c (up gain j (s + Wt c i j)) to i = s := by
    rw [← hs]
    rcases hR with h | ⟨p, h, _⟩
    · rw [st_free h, st_free h]
    · have : p ≠ j := fun e => hne (by rw [h, e])
      rw [st_at h, st_at h, up_ne _ _ this]
  refine ⟨?_, fun q hq => ?_, fun q hq hn => ?_, fun q hq => ?_, fun q hq => ?_, fun q hq => ?_, fun q hq => ?_, fun q hq => ?_, fun q => ?_⟩
  · split
    · exact hW.nd
    · rename_i h; exact List.nodup_cons.2 ⟨h, hW.nd⟩
  · rcases (hmem q).1 hq with e | h
    · rw [e]; exact he.2.1
    · exact hW.rr q h
  · have h1 : q ≠ j := fun e => hn ((hmem q).2 (.inl e))
    have h2 : q ∉ rl := fun h => hn ((hmem q).2 (.inr h))
    rw [gup q h1]; exact hW.un q hq h2
  · by_cases e : q = j
    · rw [e, up_same]
      by_cases hj : j ∈ rl
      · have := hW.lo j hj
        simp only [if_pos hj]; omega
      · simp only [if_neg hj, List.length_cons]; omega
    · rw [gup q e]
      have h := ((hmem q).1 hq).resolve_left e
      have := hW.lo q h
      omega
  · by_cases e : q = j
    · rw [e, up_same]; omega
    · rw [gup q e]; exact hW.hi q (((hmem q).1 hq).resolve_left e)
  · by_cases e : q = j
    · rw [e, up_same]; exact ⟨he, hne⟩
    · rw [fup q e]; exact hW.ed q (((hmem q).1 hq).resolve_left e)
  · by_cases e : q = j
    · rw [e, up_same, up_same, stj]; exact Int.le_refl _
    · rw [gup q e, fup q e]
      have := hW.ub q (((hmem q).1 hq).resolve_left e)
      have := stm (fm q)
      omega
  · by_cases e : q = j
    · subst e
      rw [up_same, up_same]
      rcases hR with h | ⟨p, h, hp⟩
      · exact .inl h
      · have hpj : p ≠ q := fun e => hne (by rw [h, e])
        refine .inr ⟨p, h, (hmem p).2 (.inr hp), ?_⟩
        rw [xne p hpj, up_ne _ _ hpj]
        have ht := hP.ti i p he.1 h
        have hs2 := st_at (c := c) (gain := gain) h
        have := hW.ta p
        unfold xs
        rw [up_same]
        omega
    · rw [fup q e, up_ne _ _ e]
      rcases hW.pa q (((hmem q).1 hq).resolve_left e) with h | ⟨p, h, hp, ho⟩
      · exact .inl h
      · refine .inr ⟨p, h, (hmem p).2 (.inr hp), ?_⟩
        rw [xne q e]
        by_cases ep : p = j
        · subst ep
          left; omega
        · rw [xne p ep, up_ne _ _ ep]; exact ho
  · by_cases e : q = j
    · rw [e, up_same]; omega
    · rw [up_ne _ _ e]; have := hW.ta q; omega
/-- Nothing gains any more. -/
def Fx (c : Nat → Nat → Int) (l r : Nat) (gl gr : Nat → Bool) (to gain : Nat → Int) (rl : List Nat) : Prop := ∀ i j, Ed c l r gl gr i j → to i ≠ j → Rd to rl i → stI c gain to i + Wt c i j ≤ gain j
end
end Go.Proofs.Ytajpngnphbdnnaa.Hung
namespace Go.Proofs.Ytajpngnphbdnnaa.Hung
set_option linter.unusedSimpArgs false
set_option linter.unusedVariables false
section
variable {c : Nat → Nat → Int} {l r : Nat} {gl gr : Nat → Bool} {of to a b gain : Nat → Int} {fm tau : Nat → Nat} {rl : List Nat} {T : Nat} {A D : Int}
/-- How far a left glove is. -/
def ys (A : Int) (b gain to : Nat → Int) (i : Nat) : Int := if 0 ≤ to i then xs A b gain (to i).toNat else 0
theorem ys_free {i : Nat} (h : to i = -1) : ys A b gain to i = 0 := if_neg (by omega)
theorem ys_at {i p : Nat} (h : to i = p) : ys A b gain to i = xs A b gain p := by
  unfold ys; rw [h, if_pos (by omega), Int.toNat_natCast]
theorem xs_nonneg (hP : Pc c l r gl gr of to a b A) (hW : Wy c l r gl gr to b A gain fm rl tau T) {j : Nat} (hj : j < r) (hg : gr j = false) : 0 ≤ xs A b gain j := by
  by_cases h : j ∈ rl
  · have := hW.hi j h; unfold xs; omega
  · have := hW.un j hj h
    have := (hP.b0 j hj hg).1
    have := hP.A0
    unfold xs; omega
theorem ys_nonneg (hM : Mt c l r gl gr of to) (hP : Pc c l r gl gr of to a b A) (hW : Wy c l r gl gr to b A gain fm rl tau T) {i : Nat} (hi : i < l) : 0 ≤ ys A b gain to i := by
  rcases hM.t1 i hi with h | ⟨j, h, he, _⟩
  · rw [ys_free h]; exact Int.le_refl _
  · rw [ys_at h]; exact xs_nonneg hP hW he.2.1 he.2.2.2.1
/-- The prices moved by D, by how far each glove is. -/
def na (A D : Int) (a b gain to : Nat → Int) (i : Nat) : Int := a i - D + min (ys A b gain to i) D
def nb (A D : Int) (b gain : Nat → Int) (j : Nat) : Int := b j + D - min (xs A b gain j) D
theorem Pc.move (hM : Mt c l r gl gr of to) (hP : Pc c l r gl gr of to a b A) (hW : Wy c l r gl gr to b A gain fm rl tau T) (hF : Fx c l r gl gr to gain rl) (h0 : 0 ≤ D) (hDA : D ≤ A) (hfree : ∀ j, j < r → gr j = false → of j = -1 → D ≤ xs A b gain j) :
    Pc c l r gl gr of to (na A D a b gain to) (nb A D b gain) (A - D) := by
  have hbA := hP.bA
  refine ⟨by omega, fun i hi hg => ?_, fun j hj hg => ?_, fun i j he => ?_, fun i j hi h => ?_, by omega⟩
  · have h1 := (hP.aA i hi hg).1
    have h2 := ys_nonneg hM hP hW hi
    refine ⟨by unfold na; omega, fun h => ?_⟩
    have := (hP.aA i hi hg).2 h
    unfold na; rw [ys_free h]; omega
  · have h1 := (hP.b0 j hj hg).1
    refine ⟨by unfold nb; omega, fun h => ?_⟩
    have h2 := (hP.b0 j hj hg).2 h
    have h3 := hfree j hj hg h
    unfold nb; omega
  · have hfe := hP.fe i j he
    have key : min (xs A b gain j) D ≤ min (ys A b gain to i) D + (a i + b j - Wt c i j) := by
      by_cases hij : to i = j
      · rw [ys_at hij]; omega
      · rcases hM.t1 i he.1 with h | ⟨p, h, hep, _⟩
        · have h1 := hF i j he hij (.inl h)
          rw [st_free h] at h1
          rw [ys_free h]
          have := (hP.aA i he.1 he.2.2.1).2 h
          unfold xs; omega
        · by_cases hp : p ∈ rl
          · have h1 := hF i j he hij (.inr ⟨p, h, hp⟩)
            rw [st_at h] at h1
            rw [ys_at h]
            have := hP.ti i p he.1 h
            unfold xs; omega
          · rw [ys_at h]
            have h1 := hW.un p hep.2.1 hp
            have h2 := (hP.b0 p hep.2.1 hep.2.2.2.1).1
            unfold xs; omega
    unfold na nb; omega
  · rcases hM.t1 i hi with h' | ⟨p, h', hep, _⟩
    · rw [h] at h'; omega
    · have := hP.ti i j hi h
      unfold na nb; rw [ys_at h]; omega
/-- Prices are no greater than what a pair is worth. -/
theorem Pc.b_le (hM : Mt c l r gl gr of to) (hP : Pc c l r gl gr of to a b A) {j : Nat} (hj : j < r) (hg : gr j = false) : b j ≤ 1000000000 := by
  rcases hM.o1 j hj with h | ⟨i, h, he, ht⟩
  · rw [(hP.b0 j hj hg).2 h]; omega
  · have h1 := hP.ti i j he.1 ht
    have h2 := (hP.aA i he.1 he.2.2.1).1
    have h3 := hP.A0
    have h4 := he.2.2.2.2
    unfold Wt at h1; omega
theorem Pc.start (c : Nat → Nat → Int) (l r : Nat) (gl gr : Nat → Bool) : Pc c l r gl gr (fun _ => -1) (fun _ => -1) (fun _ => 1000000000) (fun _ => 0) 1000000000 :=
  ⟨by omega, fun _ _ _ => ⟨Int.le_refl _, fun _ => rfl⟩, fun _ _ _ => ⟨Int.le_refl _, fun _ => rfl⟩, fun i j he => by have := he.2.2.2.2; unfold Wt; omega, fun i j _ h => by omega, Int.le_refl _⟩
theorem Mt.start (c : Nat → Nat → Int) (l r : Nat) (gl gr : Nat → Bool) : Mt c l r gl gr (fun _ => -1) (fun _ => -1) := ⟨fun _ _ => .inl rfl, fun _ _ => .inl rfl⟩
/-- What the pairs are worth. -/
def valT (c : Nat → Nat → Int) (to : Nat → Int) (l : Nat) : Int := sN (fun i => if 0 ≤ to i then Wt c i (to i).toNat else 0) l
/-- Along a way: the right glove j has lost its partner. -/
structure Pg (c : Nat → Nat → Int) (l r : Nat) (gl gr : Nat → Bool) (of0 to0 : Nat → Int) (a b gain : Nat → Int) (rl : List Nat) (rk : Nat → Nat) (A D V : Int) (of to : Nat → Int) (j : Nat) : Prop where
  jr : j ∈ rl
  jD : xs A b gain j ≤ D
  t1 : ∀ i, i < l → to i = -1 ∨ ∃ q : Nat, to i = q ∧ Ed c l r gl gr i q ∧ of q = i ∧ q ≠ j
  o1 : ∀ q, q < r → q ≠ j → of q = -1 ∨ ∃ i : Nat, of q = i ∧ Ed c l r gl gr i q ∧ to i = q
  kp : ∀ i, i < l → to i = to0 i ∨ ∃ k : Nat, to0 i = k ∧ rk j ≤ rk k ∧ k ∈ rl
  vi : ∀ i, i < l → to i = -1 → to0 i = -1
  fo : ∀ q, q < r → q ≠ j → of q = -1 → of0 q = -1
  ti : ∀ (i q : Nat), i < l → to i = q → na A D a b gain to0 i + nb A D b gain q = Wt c i q
  su : valT c to l + gain j = V
theorem Pg.start (hM : Mt c l r gl gr of to) (hP : Pc c l r gl gr of to a b A) (hP' : Pc c l r gl gr of to (na A D a b gain to) (nb A D b gain) (A - D)) (rk : Nat → Nat) {j : Nat} (hj : j ∈ rl) (hjr : j < r) (hx : xs A b gain j ≤ D) (hf : of j = -1) :
    Pg c l r gl gr of to a b gain rl rk A D (valT c to l + gain j) of to j := by
  refine ⟨hj, hx, fun i hi => ?_, fun q hq _ => hM.o1 q hq, fun _ _ => .inl rfl, fun _ _ h => h, fun _ _ _ h => h, fun i q hi h => hP'.ti i q hi h, rfl⟩
  rcases hM.t1 i hi with h | ⟨q, h1, h2, h3⟩
  · exact .inl h
  · exact .inr ⟨q, h1, h2, h3, fun e => by rw [e] at h3; omega⟩
theorem valT_up (c : Nat → Nat → Int) (to : Nat → Int) {l i : Nat} (j : Nat) (hi : i < l) : valT c (up to i (j : Int)) l = valT c to l + (Wt c i j - (if 0 ≤ to i then Wt c i (to i).toNat else 0)) := by
  unfold valT
  have : (fun k => if 0 ≤ up to i (j : Int) k then Wt c k (up to i (j : Int) k).toNat else 0) = up (fun k => if 0 ≤ to k then Wt c k (to k).toNat else 0) i (Wt c i j) := by
    funext k
    by_cases e : k = i
    · subst e; rw [up_same, up_same, if_pos (by omega), Int.toNat_natCast]
    · rw [up_ne _ _ e, up_ne _ _ e]
  rw [this, sN_up, if_pos hi]
theorem Pg.step (hP : Pc c l r gl gr of to a b A) (hW : Wy c l r gl gr to b A gain fm rl tau T) (hF : Fx c l r gl gr to gain rl) {rk : Nat → Nat} (hrk : ∀ j ∈ rl, to (fm j) = -1 ∨ ∃ p : Nat, to (fm j) = p ∧ p ∈ rl ∧ rk p < rk j) {V : Int} {of' to' : Nat → Int} {j : Nat}
    (h : Pg c l r gl gr of to a b gain rl rk A D V of' to' j) :
    to' (fm j) = to (fm j) ∧ fm j < l ∧
    (to (fm j) = -1 → Mt c l r gl gr (up of' j (fm j : Int)) (up to' (fm j) (j : Int)) ∧ (∀ i, i < l → up to' (fm j) (j : Int) i = -1 → to i = -1) ∧ (∀ q, q < r → up of' j (fm j : Int) q = -1 → of q = -1) ∧
      (∀ (i q : Nat), i < l → up to' (fm j) (j : Int) i = q → na A D a b gain to i + nb A D b gain q = Wt c i q) ∧ valT c (up to' (fm j) (j : Int)) l = V) ∧
    (∀ p : Nat, to (fm j) = p → p < r ∧ rk p < rk j ∧ Pg c l r gl gr of to a b gain rl rk A D V (up of' j (fm j : Int)) (up to' (fm j) (j : Int)) p) := by
  obtain ⟨he, hne⟩ := hW.ed j h.jr
  have hil := he.1
  have hpar := hrk j h.jr
  -- the glove before was not met yet
  have hto : to' (fm j) = to (fm j) := by
    rcases h.kp (fm j) hil with e | ⟨k, e, h1, _⟩
    · exact e
    · rcases hpar with e2 | ⟨p, e2, _, h2⟩
      · rw [e] at e2; omega
      · rw [e] at e2
        have : k = p := by omega
        subst this; omega
  have hRd : Hung.Rd to rl (fm j) := by
    rcases hpar with e | ⟨p, e, hp, _⟩
    · exact .inl e
    · exact .inr ⟨p, e, hp⟩
  have heq : gain j = stI c gain to (fm j) + Wt c (fm j) j := by
    have := hW.ub j h.jr
    have := hF (fm j) j he hne hRd
    omega
  -- the pair that is added is tight
  have htj : na A D a b gain to (fm j) + nb A D b gain j = Wt c (fm j) j := by
    have hjD := h.jD
    have hxj : xs A b gain j = ys A b gain to (fm j) + (a (fm j) + b j - Wt c (fm j) j) := by
      rcases hpar with e | ⟨p, e, hp, _⟩
      · rw [ys_free e]
        rw [st_free e] at heq
        have := (hP.aA (fm j) hil he.2.2.1).2 e
        unfold xs; omega
      · rw [ys_at e]
        rw [st_at e] at heq
        have := hP.ti (fm j) p hil e
        unfold xs; omega
    have hfe := hP.fe (fm j) j he
    unfold na nb; omega
  have htiN : ∀ (i q : Nat), i < l → up to' (fm j) (j : Int) i = q → na A D a b gain to i + nb A D b gain q = Wt c i q := fun i q hi hq => by
    by_cases e : i = fm j
    · subst e
      rw [up_same] at hq
      have : j = q := by omega
      subst this; exact htj
    · rw [up_ne _ _ e] at hq; exact h.ti i q hi hq
  refine ⟨hto, hil, fun hfree => ?_, fun p hp => ?_⟩
  · refine ⟨⟨fun i hi => ?_, fun q hq => ?_⟩, fun i hi hi1 => ?_, fun q hq hq1 => ?_, htiN, ?_⟩
    · by_cases e : i = fm j
      · subst e
        exact .inr ⟨j, up_same .., he, up_same ..⟩
      · rw [up_ne _ _ e]
        rcases h.t1 i hi with h1 | ⟨q, h1, h2, h3, h4⟩
        · exact .inl h1
        · exact .inr ⟨q, h1, h2, by rw [up_ne _ _ h4]; exact h3⟩
    · by_cases e : q = j
      · subst e
        exact .inr ⟨fm q, up_same .., he, up_same ..⟩
      · rw [up_ne _ _ e]
        rcases h.o1 q hq e with h1 | ⟨i, h1, h2, h3⟩
        · exact .inl h1
        · refine .inr ⟨i, h1, h2, ?_⟩
          rw [up_ne _ _ fun e2 => by rw [e2, hto, hfree] at h3; omega]
          exact h3
    · by_cases e : i = fm j
      · rw [e]; exact hfree
      · rw [up_ne _ _ e] at hi1
        exact h.vi i hi hi1
    · by_cases e : q = j
      · subst e; rw [up_same] at hq1; omega
      · rw [up_ne _ _ e] at hq1; exact h.fo q hq e hq1
    · rw [valT_up c to' j hil, hto, hfree, if_neg (by omega)]
      have := h.su
      rw [st_free hfree] at heq
      omega
  · rcases hpar with e0 | ⟨p', e0, hpr, hrkp⟩
    · rw [hp] at e0; omega
    have : p' = p := by omega
    subst this
    have hpn : p' ≠ j := fun e => hne (by rw [hp, e])
    have hpr' := hW.rr p' hpr
    have hofp : of' p' = (fm j : Int) ∧ ∀ i, i < l → to' i = p' → i = fm j := by
      have key : ∀ i, i < l → to' i = p' → of' p' = i := fun i hi h1 => by
        rcases h.t1 i hi with h2 | ⟨q, h2, _, h4, _⟩
        · omega
        · have : q = p' := by omega
          subst this; exact h4
      have h1 := key (fm j) hil (by rw [hto, hp])
      exact ⟨h1, fun i hi h2 => by have := key i hi h2; omega⟩
    refine ⟨hpr', hrkp, ⟨hpr, ?_, fun i hi => ?_, fun q hq hqp => ?_, fun i hi => ?_, fun i hi hi1 => ?_, fun q hq hqp hq1 => ?_, htiN, ?_⟩⟩
    · have hjD := h.jD
      have hfe := hP.fe (fm j) j he
      have ht := hP.ti (fm j) p' hil hp
      rw [st_at hp] at heq
      unfold xs at *; omega
    · by_cases e : i = fm j
      · subst e
        exact .inr ⟨j, up_same .., he, up_same .., Ne.symm hpn⟩
      · rw [up_ne _ _ e]
        rcases h.t1 i hi with h1 | ⟨q, h1, h2, h3, h4⟩
        · exact .inl h1
        · exact .inr ⟨q, h1, h2, by rw [up_ne _ _ h4]; exact h3, fun e2 => e (hofp.2 i hi (by rw [h1, e2]))⟩
    · by_cases e : q = j
      · subst e
        exact .inr ⟨fm q, up_same .., he, up_same ..⟩
      · rw [up_ne _ _ e]
        rcases h.o1 q hq e with h1 | ⟨i, h1, h2, h3⟩
        · exact .inl h1
        · refine .inr ⟨i, h1, h2, ?_⟩
          rw [up_ne _ _ fun e2 => hqp (by rw [e2, hto, hp] at h3; omega)]
          exact h3
    · by_cases e : i = fm j
      · subst e
        exact .inr ⟨p', hp, Nat.le_refl _, hpr⟩
      · rw [up_ne _ _ e]
        rcases h.kp i hi with h1 | ⟨k, h1, h2, h3⟩
        · exact .inl h1
        · exact .inr ⟨k, h1, by omega, h3⟩
    · by_cases e : i = fm j
      · subst e; rw [up_same] at hi1; omega
      · rw [up_ne _ _ e] at hi1; exact h.vi i hi hi1
    · by_cases e : q = j
      · subst e; rw [up_same] at hq1; omega
      · rw [up_ne _ _ e] at hq1; exact h.fo q hq e hq1
    · rw [valT_up c to' j hil, hto, hp, if_pos (by omega), Int.toNat_natCast]
      have := h.su
      rw [st_at hp] at heq
      omega
end
end Go.Proofs.Ytajpngnphbdnnaa.Hung
namespace Go.Proofs.Ytajpngnphbdnnaa.Hung
set_option linter.unusedSimpArgs false
set_option linter.unusedVariables false
section
variable {c : Nat → Nat → Int} {l r : Nat} {gl gr : Nat → Bool} {of to a b gain g0 : Nat → Int} {fm tau : Nat → Nat} {rl rl0 : List Nat} {T : Nat} {A : Int}
theorem Mt.inj (hM : Mt c l r gl gr of to) : ∀ (i i' j : Nat), i < l → i' < l → to i = j → to i' = j → i = i' := fun i i' j hi hi' h h' => by
  rcases hM.t1 i hi with e | ⟨q, e, _, f⟩
  · omega
  · rcases hM.t1 i' hi' with e' | ⟨q', e', _, f'⟩
    · omega
    · have h1 : q = j := by omega
      have h2 : q' = j := by omega
      subst h1 h2; omega
theorem Rd.mono {i : Nat} {k : List Nat} (h : Rd to rl i) (hs : ∀ q ∈ rl, q ∈ k) : Rd to k i := by
  rcases h with h | ⟨p, h, hp⟩
  · exact .inl h
  · exact .inr ⟨p, h, hs p hp⟩
theorem Wy.le (hM : Mt c l r gl gr of to) (hP : Pc c l r gl gr of to a b A) (hW : Wy c l r gl gr to b A gain fm rl tau T) {j : Nat} (hj : j < r) : gain j ≤ 2000000000 := by
  by_cases h : j ∈ rl
  · have := hW.hi j h
    have := hP.b_le hM hj (hW.ed j h).1.2.2.2.1
    have := hP.bA
    omega
  · have := hW.un j hj h; omega
/-- A left glove is reached just if the way up to it gains more than nothing known. -/
theorem Wy.rd (hM : Mt c l r gl gr of to) (hP : Pc c l r gl gr of to a b A) (hW : Wy c l r gl gr to b A gain fm rl tau T) (hc : ∀ i j, c i j ≤ 1000000000) (hr : r ≤ 32) {i : Nat} (hi : i < l) :
    (Rd to rl i ∧ -1000000000 * (rl.length : Int) ≤ stI c gain to i + 1000000000 ∧ -1125899906842624 ≤ stI c gain to i ∧ stI c gain to i ≤ 4000000000) ∨ (¬ Rd to rl i ∧ stI c gain to i < -1125899906842624) := by
  have hn := Int.natCast_nonneg rl.length
  have hl := hW.len
  rcases hM.t1 i hi with h | ⟨p, h, he, _⟩
  · refine .inl ⟨.inl h, ?_⟩
    rw [st_free h]
    omega
  · rw [st_at h]
    have h4 := he.2.2.2.2
    have h5 := hc i p
    have h3 : Wt c i p = 1000000000 - c i p := rfl
    rw [h3]
    by_cases hp : p ∈ rl
    · have h6 := hW.lo p hp
      have h7 := hW.le hM hP he.2.1
      exact .inl ⟨.inr ⟨p, h, hp⟩, by omega, by omega, by omega⟩
    · have := hW.un p he.2.1 hp
      refine .inr ⟨fun hR => ?_, by omega⟩
      rcases hR with e | ⟨q, e, hq⟩
      · omega
      · have : p = q := by omega
        subst this; exact hp hq
def pot (gain : Nat → Int) (r : Nat) : Nat := (sN (fun j => 4000000000 - gain j) r).toNat
theorem pot_up {j : Nat} {x : Int} (hj : j < r) (hle : ∀ q, q < r → gain q ≤ 4000000000) (hx : x ≤ 4000000000) (hlt : gain j < x) : pot (up gain j x) r < pot gain r := by
  have e : (fun q => 4000000000 - up gain j x q) = up (fun q => 4000000000 - gain q) j (4000000000 - x) := by
    funext q
    by_cases e : q = j
    · subst e; rw [up_same, up_same]
    · rw [up_ne _ _ e, up_ne _ _ e]
  unfold pot
  rw [e, sN_up, if_pos hj]
  have h0 : 0 ≤ sN (fun q => 4000000000 - up gain j x q) r := sN_nonneg fun q hq => by
    by_cases e : q = j
    · subst e; rw [up_same]; omega
    · rw [up_ne _ _ e]; have := hle q hq; omega
  rw [e, sN_up, if_pos hj] at h0
  omega
/-- How far one round has come: nothing was bettered and nothing before gains, or something was. -/
def Swp (c : Nat → Nat → Int) (l r : Nat) (gl gr : Nat → Bool) (to g0 : Nat → Int) (rl0 : List Nat) (gain : Nat → Int) (rl : List Nat) (i q : Nat) (ag : Bool) : Prop :=
  (ag = false ∧ gain = g0 ∧ rl = rl0 ∧ ∀ i' j', Ed c l r gl gr i' j' → to i' ≠ j' → Rd to rl i' → (i' < i ∨ i' = i ∧ j' < q) → stI c gain to i' + Wt c i' j' ≤ gain j') ∨ (ag = true ∧ pot gain r < pot g0 r)
theorem Swp.start (g0 : Nat → Int) (rl0 : List Nat) : Swp c l r gl gr to g0 rl0 g0 rl0 0 0 false := .inl ⟨rfl, rfl, rfl, fun _ _ _ _ _ h => by omega⟩
theorem Swp.row {i : Nat} {ag : Bool} (h : Swp c l r gl gr to g0 rl0 gain rl i r ag) : Swp c l r gl gr to g0 rl0 gain rl (i + 1) 0 ag := by
  rcases h with ⟨h1, h2, h3, h4⟩ | h
  · refine .inl ⟨h1, h2, h3, fun i' j' he hne hR ho => h4 i' j' he hne hR ?_⟩
    have := he.2.1
    omega
  · exact .inr h
theorem Swp.skip {i q : Nat} {ag : Bool} (h : Swp c l r gl gr to g0 rl0 gain rl i q ag) (hg : Ed c l r gl gr i q → to i ≠ q → stI c gain to i + Wt c i q ≤ gain q) : Swp c l r gl gr to g0 rl0 gain rl i (q + 1) ag := by
  rcases h with ⟨h1, h2, h3, h4⟩ | h
  · refine .inl ⟨h1, h2, h3, fun i' j' he hne hR ho => ?_⟩
    by_cases e : i' = i ∧ j' = q
    · obtain ⟨rfl, rfl⟩ := e; exact hg he hne
    · exact h4 i' j' he hne hR (by omega)
  · exact .inr h
theorem Swp.take {i q : Nat} {ag : Bool} {x : Int} {k : List Nat} (h : Swp c l r gl gr to g0 rl0 gain rl i q ag) (hq : q < r) (hle : ∀ q, q < r → gain q ≤ 4000000000) (hx : x ≤ 4000000000) (hlt : gain q < x) : Swp c l r gl gr to g0 rl0 (up gain q x) k i (q + 1) true := by
  have := pot_up hq hle hx hlt
  rcases h with ⟨h1, h2, h3, h4⟩ | h
  · subst h2; exact .inr ⟨rfl, this⟩
  · exact .inr ⟨rfl, by omega⟩
end
end Go.Proofs.Ytajpngnphbdnnaa.Hung
namespace Go.Proofs.Ytajpngnphbdnnaa.Abs
set_option linter.unusedSimpArgs false
set_option linter.unusedVariables false
open Go.RowKit
open Go.Proofs.Ytajpngnphbdnnaa.Sim
open Go.Proofs
/-- A row of truths. -/
def BRow (m : AM) (v : Value) (g : Nat → Bool) (n : Nat) : Prop := ∃ a o, Sl v a o n ∧ a < m.length ∧ ∀ k, k < n → Rd m a (o + k) (.bool (g k))
theorem BRow.old {m : AM} {v : Value} {g : Nat → Bool} {n : Nat} (L : AM) (h : BRow m v g n) : BRow (m ++ L) v g n := by
  obtain ⟨a, o, h1, h2, h3⟩ := h
  exact ⟨a, o, h1, by simp; omega, fun k hk => (h3 k hk).old L⟩
theorem fill_step (z y : Int) (k n : Nat) : tab (Hung.up (fun x => if x < k then z else y) k z) n = tab (fun x => if x < k + 1 then z else y) n := tab_congr fun x hx => by
  simp only [Hung.up]
  by_cases e : x = k
  · subst e; rw [if_pos rfl, if_pos (by omega)]
  · rw [if_neg e]
    by_cases c : x < k
    · rw [if_pos c, if_pos (by omega)]
    · rw [if_neg c, if_neg (by omega)]
theorem fill_all (z y : Int) (n : Nat) : tab (fun x => if x < n then z else y) n = tab (fun _ => z) n := tab_congr fun x hx => if_pos hx
end Go.Proofs.Ytajpngnphbdnnaa.Abs
namespace Go.Proofs.Ytajpngnphbdnnaa.Hung
set_option linter.unusedSimpArgs false
set_option linter.unusedVariables false
section
variable {c : Nat → Nat → Int} {l r : Nat} {gl gr : Nat → Bool} {of to a b gain : Nat → Int} {fm tau rk : Nat → Nat} {rl : List Nat} {T : Nat} {A D V : Int} {of' to' : Nat → Int}
/-- The best end of a way among the first k. -/
def Bst (gr : Nat → Bool) (of gain : Nat → Int) (k : Nat) (best : Int) : Prop :=
  (best = -1 ∧ ∀ j, j < k → gr j = false → of j = -1 → gain j ≤ 0) ∨ (∃ q : Nat, best = q ∧ q < k ∧ gr q = false ∧ of q = -1 ∧ 0 < gain q ∧ ∀ j, j < k → gr j = false → of j = -1 → gain j ≤ gain q)
theorem Bst.start (gr : Nat → Bool) (of gain : Nat → Int) : Bst gr of gain 0 (-1) := .inl ⟨rfl, fun _ h => by omega⟩
theorem Bst.skip {k : Nat} {best : Int} (h : Bst gr of gain k best) (hg : gr k = false → of k = -1 → 0 < gain k → 0 ≤ best ∧ gain k ≤ gain best.toNat) : Bst gr of gain (k + 1) best := by
  rcases h with ⟨h1, h2⟩ | ⟨q, h1, h2, h3, h4, h5, h6⟩
  · refine .inl ⟨h1, fun j hj g f => ?_⟩
    rcases Nat.lt_or_ge j k with e | e
    · exact h2 j e g f
    · have : j = k := by omega
      subst this
      rcases Int.lt_or_le 0 (gain j) with h | h
      · have := hg g f h; omega
      · exact h
  · refine .inr ⟨q, h1, by omega, h3, h4, h5, fun j hj g f => ?_⟩
    rcases Nat.lt_or_ge j k with e | e
    · exact h6 j e g f
    · have : j = k := by omega
      subst this
      rcases Int.lt_or_le 0 (gain j) with h | h
      · have := (hg g f h).2
        rw [h1, Int.toNat_natCast] at this; exact this
      · omega
theorem Bst.take {k : Nat} {best : Int} (h : Bst gr of gain k best) (hg : gr k = false) (hf : of k = -1) (hp : 0 < gain k) (hb : best < 0 ∨ gain best.toNat < gain k) : Bst gr of gain (k + 1) (k : Int) := by
  refine .inr ⟨k, rfl, by omega, hg, hf, hp, fun j hj g f => ?_⟩
  rcases Nat.lt_or_ge j k with e | e
  · rcases h with ⟨h1, h2⟩ | ⟨q, h1, h2, h3, h4, h5, h6⟩
    · have := h2 j e g f; omega
    · have := h6 j e g f
      rcases hb with hb | hb
      · omega
      · rw [h1, Int.toNat_natCast] at hb; omega
  · have : j = k := by omega
    subst this; exact Int.le_refl _
/-- Handing on along the way. -/
def Wk (c : Nat → Nat → Int) (l r : Nat) (gl gr : Nat → Bool) (of to a b gain : Nat → Int) (rl : List Nat) (rk : Nat → Nat) (A D V : Int) (of' to' : Nat → Int) (j : Int) : Prop :=
  (∃ q : Nat, j = q ∧ Pg c l r gl gr of to a b gain rl rk A D V of' to' q) ∨ (j = -1 ∧ Mt c l r gl gr of' to' ∧ Pc c l r gl gr of' to' (na A D a b gain to) (nb A D b gain) (A - D) ∧ valT c to' l = V)
theorem Wk.start (hM : Mt c l r gl gr of to) (hP : Pc c l r gl gr of to a b A) (hW : Wy c l r gl gr to b A gain fm rl tau T) (hF : Fx c l r gl gr to gain rl) (rk : Nat → Nat) {q : Nat} (hq : q < r) (hg : gr q = false) (hf : of q = -1) (hp : 0 < gain q) (hmx : ∀ j, j < r → gr j = false → of j = -1 → gain j ≤ gain q) :
    Pc c l r gl gr of to (na A (A - gain q) a b gain to) (nb A (A - gain q) b gain) (A - (A - gain q)) ∧ Wk c l r gl gr of to a b gain rl rk A (A - gain q) (valT c to l + gain q) of to (q : Int) := by
  have hq2 : q ∈ rl := by
    by_cases h : q ∈ rl
    · exact h
    · have := hW.un q hq h; omega
  have hb := (hP.b0 q hq hg).2 hf
  have hhi := hW.hi q hq2
  have hP' := hP.move (D := A - gain q) hM hW hF (by omega) (by omega) fun j hj g f => by
    have h1 := hmx j hj g f
    have h2 := (hP.b0 j hj g).2 f
    unfold xs; omega
  exact ⟨hP', .inl ⟨q, rfl, Pg.start hM hP hP' rk hq2 hq (by unfold xs; omega) hf⟩⟩
theorem Wk.step (hP : Pc c l r gl gr of to a b A) (hW : Wy c l r gl gr to b A gain fm rl tau T) (hF : Fx c l r gl gr to gain rl) (hrk : ∀ j ∈ rl, to (fm j) = -1 ∨ ∃ p : Nat, to (fm j) = p ∧ p ∈ rl ∧ rk p < rk j)
    (hP' : Pc c l r gl gr of to (na A D a b gain to) (nb A D b gain) (A - D)) {q : Nat} (h : Pg c l r gl gr of to a b gain rl rk A D V of' to' q) :
    q < r ∧ fm q < l ∧ to' (fm q) = to (fm q) ∧ Wk c l r gl gr of to a b gain rl rk A D V (up of' q (fm q : Int)) (up to' (fm q) (q : Int)) (to (fm q)) ∧ (to (fm q) = -1 ∨ ∃ p : Nat, to (fm q) = p ∧ rk p < rk q) := by
  obtain ⟨h1, h2, h3, h4⟩ := Pg.step hP hW hF hrk h
  refine ⟨hW.rr q h.jr, h2, h1, ?_⟩
  rcases hrk q h.jr with e | ⟨p, e, _⟩
  · obtain ⟨k1, k2, k3, k4, k5⟩ := h3 e
    refine ⟨.inr ⟨e, k1, ⟨hP'.A0, fun i hi g => ⟨(hP'.aA i hi g).1, fun f => (hP'.aA i hi g).2 (k2 i hi f)⟩, fun j hj g => ⟨(hP'.b0 j hj g).1, fun f => (hP'.b0 j hj g).2 (k3 j hj f)⟩, hP'.fe, k4, hP'.bA⟩, k5⟩, .inl e⟩
  · obtain ⟨k1, k2, k3⟩ := h4 p e
    exact ⟨.inl ⟨p, e, k3⟩, .inr ⟨p, e, k2⟩⟩
end
end Go.Proofs.Ytajpngnphbdnnaa.Hung
namespace Go.Proofs.Ytajpngnphbdnnaa.Hung
set_option linter.unusedSimpArgs false
set_option linter.unusedVariables false
/-- How many of the first n. -/
def cN (p : Nat → Bool) : Nat → Nat
  | 0 => 0
  | n + 1 => cN p n + if p n = true then 1 else 0
theorem cN_filter (p : Nat → Bool) : ∀ n, cN p n = ((List.range n).filter p).length
  | 0 => rfl
  | n + 1 => by
    rw [List.range_succ, List.filter_append, List.length_append, ← cN_filter p n, cN]
    cases h : p n <;> simp [h]
theorem cN_mono {p q : Nat → Bool} : ∀ {n : Nat}, (∀ j, j < n → p j = true → q j = true) → cN p n ≤ cN q n
  | 0, _ => Nat.le_refl _
  | n + 1, h => by
    have := cN_mono (n := n) fun j hj => h j (by omega)
    have := h n (by omega)
    simp only [cN]
    cases hp : p n <;> cases hq : q n <;> simp_all <;> omega
theorem cN_congr {p q : Nat → Bool} {n : Nat} (h : ∀ j, j < n → p j = q j) : cN p n = cN q n :=
  Nat.le_antisymm (cN_mono fun j hj hp => by rw [← h j hj]; exact hp) (cN_mono fun j hj hp => by rw [h j hj]; exact hp)
theorem cN_one {p q : Nat → Bool} {j0 : Nat} (hp : p j0 = false) (hq : q j0 = true) (h : ∀ j, j ≠ j0 → q j = p j) : ∀ {n : Nat}, j0 < n → cN q n = cN p n + 1
  | 0, h0 => by omega
  | n + 1, h0 => by
    simp only [cN]
    by_cases e : j0 = n
    · subst e
      rw [hp, hq, cN_congr (p := q) (q := p) fun j hj => h j (by omega)]; simp
    · rw [cN_one hp hq h (n := n) (by omega), h n (by omega)]; omega
theorem cN_le {p : Nat → Bool} : ∀ n, cN p n ≤ n
  | 0 => Nat.le_refl _
  | n + 1 => by have := cN_le (p := p) n; simp only [cN]; split <;> omega
theorem cN_inj {p q : Nat → Bool} {n m : Nat} (φ : Nat → Nat) (h1 : ∀ j, j < n → p j = true → φ j < m ∧ q (φ j) = true) (h2 : ∀ j j', j < n → j' < n → p j = true → p j' = true → φ j = φ j' → j = j') : cN p n ≤ cN q m := by
  rw [cN_filter, cN_filter]
  have hn : (((List.range n).filter p).map φ).Nodup := by
    unfold List.Nodup
    rw [List.pairwise_map]
    refine List.Pairwise.imp_of_mem ?_ (List.nodup_range.filter p : ((List.range n).filter p).Nodup)
    intro a b ha hb hab e
    rw [List.mem_filter, List.mem_range] at ha hb
    exact hab (h2 a b ha.1 hb.1 ha.2 hb.2 e)
  have := nodup_le hn (k := (List.range m).filter q) fun x hx => by
    rw [List.mem_map] at hx
    obtain ⟨j, hj, rfl⟩ := hx
    rw [List.mem_filter, List.mem_range] at hj ⊢
    exact h1 j hj.1 hj.2
  rwa [List.length_map] at this
abbrev KS := (Nat → Bool) × (Nat → Int)
/-- One left glove looks for a right one. -/
def kL (ok : Nat → Nat → Bool) (rec : Nat → KS → Bool × KS) (i : Nat) : List Nat → KS → Bool × KS
  | [], s => (false, s)
  | j :: js, s => if ok i j = false ∨ s.1 j = true then kL ok rec i js s
    else if s.2 j < 0 then (true, up s.1 j true, up s.2 j (i : Int))
    else match rec (s.2 j).toNat (up s.1 j true, s.2) with
      | (true, s') => (true, s'.1, up s'.2 j (i : Int))
      | (false, s') => kL ok rec i js s'
def kF (ok : Nat → Nat → Bool) (r : Nat) : Nat → Nat → KS → Bool × KS
  | 0, _, s => (false, s)
  | f + 1, i, s => kL ok (kF ok r f) i (List.range r) s
/-- How many are not seen yet. -/
abbrev unN (s : Nat → Bool) (r : Nat) : Nat := cN (fun j => !s j) r
theorem unN_up {s : Nat → Bool} {j r : Nat} (hj : j < r) (h : s j = false) : unN s r = unN (up s j true) r + 1 :=
  cN_one (j0 := j) (by simp [up_same]) (by simp [h]) (fun k hk => by simp [up_ne _ _ hk]) hj
theorem unN_mono {s s' : Nat → Bool} {r : Nat} (h : ∀ j, s j = true → s' j = true) : unN s' r ≤ unN s r :=
  cN_mono fun j _ hp => by
    cases e : s j with
    | false => rfl
    | true => rw [h j e] at hp; cases hp
def KFail (ok : Nat → Nat → Bool) (r i : Nat) (js : List Nat) (s s' : KS) : Prop :=
  s'.2 = s.2 ∧ (∀ j, s.1 j = true → s'.1 j = true) ∧ (∀ j, j ∈ js → ok i j = true → s'.1 j = true) ∧
  ∀ j, s'.1 j = true → s.1 j = false → j < r ∧ 0 ≤ s.2 j ∧ ∀ j', j' < r → ok (s.2 j).toNat j' = true → s'.1 j' = true
theorem kL_fail {ok : Nat → Nat → Bool} {r f i : Nat} (hrec : ∀ i s s', unN s.1 r < f → kF ok r f i s = (false, s') → KFail ok r i (List.range r) s s') :
    ∀ (js : List Nat) (s s' : KS), (∀ j ∈ js, j < r) → unN s.1 r < f + 1 → kL ok (kF ok r f) i js s = (false, s') → KFail ok r i js s s'
  | [], s, s', _, _, h => by
    simp only [kL] at h
    injection h with _ h
    subst h
    exact ⟨rfl, fun _ h => h, fun _ h => by simp at h, fun j h1 h2 => by rw [h1] at h2; cases h2⟩
  | j :: js, s, s', hjs, hf, h => by
    have hj : j < r := hjs j (by simp)
    simp only [kL] at h
    split at h
    · rename_i hc
      obtain ⟨a1, a2, a3, a4⟩ := kL_fail hrec js s s' (fun x hx => hjs x (by simp [hx])) hf h
      refine ⟨a1, a2, fun x hx hok => ?_, a4⟩
      rcases List.mem_cons.1 hx with rfl | hx
      · rcases hc with hc | hc
        · rw [hok] at hc; cases hc
        · exact a2 _ hc
      · exact a3 x hx hok
    · rename_i hc
      have hs : s.1 j = false := by cases e : s.1 j with | false => rfl | true => exact absurd (.inr e) hc
      split at h
      · cases h
      · rename_i hm
        cases hr : kF ok r f (s.2 j).toNat (up s.1 j true, s.2) with
        | mk b s2 =>
          rw [hr] at h
          cases b with
          | true => simp only at h; cases h
          | false =>
            simp only at h
            have hu := unN_up hj hs
            obtain ⟨b1, b2, b3, b4⟩ := hrec _ (up s.1 j true, s.2) s2 (by simp only; omega) hr
            simp only at b1 b2 b3 b4
            have hmono : ∀ x, s.1 x = true → s2.1 x = true := fun x hx => b2 x (by unfold up; split <;> first | rfl | exact hx)
            obtain ⟨a1, a2, a3, a4⟩ := kL_fail hrec js s2 s' (fun x hx => hjs x (by simp [hx])) (by have := unN_mono (r := r) hmono; omega) h
            refine ⟨by rw [a1, b1], fun x hx => a2 x (hmono x hx), fun x hx hok => ?_, fun x h1 h2 => ?_⟩
            · rcases List.mem_cons.1 hx with rfl | hx
              · exact a2 _ (b2 _ (up_same _ _ _))
              · exact a3 x hx hok
            · cases e : s2.1 x with
              | false =>
                have := a4 x h1 e
                rw [b1] at this
                exact this
              | true =>
                by_cases hxj : x = j
                · subst hxj
                  exact ⟨hj, by omega, fun j' hj' hok => a2 _ (b3 j' (List.mem_range.2 hj') hok)⟩
                · obtain ⟨c1, c2, c3⟩ := b4 x e (by rw [up_ne _ _ hxj]; exact h2)
                  exact ⟨c1, c2, fun j' hj' hok => a2 _ (c3 j' hj' hok)⟩
theorem kF_fail {ok : Nat → Nat → Bool} {r : Nat} : ∀ {f i : Nat} {s s' : KS}, unN s.1 r < f → kF ok r f i s = (false, s') → KFail ok r i (List.range r) s s'
  | 0, _, _, _, hf, _ => by omega
  | f + 1, i, s, s', hf, h => kL_fail (fun _ _ _ => kF_fail) (List.range r) s s' (fun _ h => List.mem_range.1 h) hf h
/-- A way from a left glove to a right one without a partner, and the pairing after it. -/
inductive Pth (ok : Nat → Nat → Bool) (r : Nat) : Nat → (Nat → Bool) → (Nat → Int) → (Nat → Int) → Prop
  | one {i j : Nat} {sn : Nat → Bool} {m : Nat → Int} : j < r → sn j = false → ok i j = true → m j < 0 → Pth ok r i sn m (up m j (i : Int))
  | more {i i2 j : Nat} {sn : Nat → Bool} {m m1 : Nat → Int} : j < r → sn j = false → ok i j = true → m j = (i2 : Nat) → Pth ok r i2 (up sn j true) m m1 → Pth ok r i sn m (up m1 j (i : Int))
theorem Pth.wide {ok : Nat → Nat → Bool} {r i : Nat} {sn : Nat → Bool} {m m' : Nat → Int} (h : Pth ok r i sn m m') : ∀ {sn' : Nat → Bool}, (∀ j, sn' j = true → sn j = true) → Pth ok r i sn' m m' := by
  have hf : ∀ {sn sn' : Nat → Bool} {j : Nat}, (∀ j, sn' j = true → sn j = true) → sn j = false → sn' j = false := fun {sn sn' j} hw h0 => by
    cases e : sn' j with
    | false => rfl
    | true => rw [hw j e] at h0; cases h0
  induction h with
  | one h1 h2 h3 h4 => exact fun hw => .one h1 (hf hw h2) h3 h4
  | more h1 h2 h3 h4 _ ih =>
    intro sn' hw
    refine .more h1 (hf hw h2) h3 h4 (ih fun x hx => ?_)
    unfold up at hx ⊢
    split at hx
    · rename_i e; rw [if_pos e]
    · rename_i e; rw [if_neg e]; exact hw x hx
theorem kL_pth {ok : Nat → Nat → Bool} {r f i : Nat} (hrec : ∀ i s s', unN s.1 r < f → kF ok r f i s = (true, s') → Pth ok r i s.1 s.2 s'.2) :
    ∀ (js : List Nat) (s s' : KS), (∀ j ∈ js, j < r) → unN s.1 r < f + 1 → kL ok (kF ok r f) i js s = (true, s') → Pth ok r i s.1 s.2 s'.2
  | [], s, s', _, _, h => by simp only [kL] at h; cases h
  | j :: js, s, s', hjs, hf, h => by
    have hj : j < r := hjs j (by simp)
    simp only [kL] at h
    split at h
    · exact kL_pth hrec js s s' (fun x hx => hjs x (by simp [hx])) hf h
    · rename_i hc
      have hs : s.1 j = false := by cases e : s.1 j with | false => rfl | true => exact absurd (.inr e) hc
      have hok : ok i j = true := by cases e : ok i j with | true => rfl | false => exact absurd (.inl e) hc
      split at h
      · rename_i hm
        injection h with _ h
        subst h
        exact .one hj hs hok hm
      · rename_i hm
        cases hr : kF ok r f (s.2 j).toNat (up s.1 j true, s.2) with
        | mk b s2 =>
          rw [hr] at h
          have hu := unN_up hj hs
          cases b with
          | true =>
            simp only at h
            injection h with _ h
            subst h
            exact .more hj hs hok (i2 := (s.2 j).toNat) (by omega) (hrec _ (up s.1 j true, s.2) s2 (by simp only; omega) hr)
          | false =>
            simp only at h
            obtain ⟨b1, b2, _, _⟩ := kF_fail (s := (up s.1 j true, s.2)) (by simp only; omega) hr
            simp only at b1 b2
            have hmono : ∀ x, s.1 x = true → s2.1 x = true := fun x hx => b2 x (by unfold up; split <;> first | rfl | exact hx)
            have := kL_pth hrec js s2 s' (fun x hx => hjs x (by simp [hx])) (by have := unN_mono (r := r) hmono; omega) h
            rw [b1] at this
            exact this.wide hmono
theorem kF_pth {ok : Nat → Nat → Bool} {r : Nat} : ∀ {f i : Nat} {s s' : KS}, unN s.1 r < f → kF ok r f i s = (true, s') → Pth ok r i s.1 s.2 s'.2
  | 0, _, _, _, hf, _ => by omega
  | f + 1, i, s, s', hf, h => kL_pth (fun _ _ _ => kF_pth) (List.range r) s s' (fun _ h => List.mem_range.1 h) hf h
def InjU (r : Nat) (sn : Nat → Bool) (m : Nat → Int) : Prop := ∀ j j', j < r → j' < r → sn j = false → sn j' = false → 0 ≤ m j → m j = m j' → j = j'
def NinU (r : Nat) (sn : Nat → Bool) (m : Nat → Int) (i : Nat) : Prop := ∀ j, j < r → sn j = false → m j ≠ (i : Nat)
structure PthOk (ok : Nat → Nat → Bool) (r i : Nat) (sn : Nat → Bool) (m m' : Nat → Int) : Prop where
  p1 : ∀ j, sn j = true ∨ r ≤ j → m' j = m j
  p2 : ∀ i' : Nat, (∃ j, j < r ∧ sn j = false ∧ m' j = (i' : Nat)) ↔ (i' = i ∨ ∃ j, j < r ∧ sn j = false ∧ m j = (i' : Nat))
  p3 : InjU r sn m'
  p4 : (∀ j, j < r → sn j = false → 0 ≤ m j → ok (m j).toNat j = true) → ∀ j, j < r → sn j = false → 0 ≤ m' j → ok (m' j).toNat j = true
  p5 : ∃ j0, j0 < r ∧ sn j0 = false ∧ m j0 < 0 ∧ 0 ≤ m' j0 ∧ ∀ j, j ≠ j0 → (0 ≤ m' j ↔ 0 ≤ m j)
  p6 : ∀ j, m' j = m j ∨ 0 ≤ m' j
theorem Pth.good {ok : Nat → Nat → Bool} {r i : Nat} {sn : Nat → Bool} {m m' : Nat → Int} (h : Pth ok r i sn m m') : InjU r sn m → NinU r sn m i → PthOk ok r i sn m m' := by
  induction h with
  | @one i j sn m h1 h2 h3 h4 =>
    intro hi hn
    refine ⟨fun x hx => up_ne _ _ ?_, fun i' => ⟨?_, ?_⟩, ?_, ?_, ⟨j, h1, h2, h4, by rw [up_same]; omega, fun x hx => by rw [up_ne _ _ hx]⟩, fun x => ?_⟩
    · rintro rfl
      rcases hx with hx | hx
      · rw [h2] at hx; cases hx
      · omega
    · rintro ⟨x, x1, x2, x3⟩
      by_cases e : x = j
      · subst e; rw [up_same] at x3; exact .inl (by omega)
      · rw [up_ne _ _ e] at x3; exact .inr ⟨x, x1, x2, x3⟩
    · rintro (rfl | ⟨x, x1, x2, x3⟩)
      · exact ⟨j, h1, h2, up_same _ _ _⟩
      · exact ⟨x, x1, x2, by rw [up_ne _ _ (by rintro rfl; omega)]; exact x3⟩
    · intro x y hx hy sx sy h0 he
      by_cases ex : x = j
      · by_cases ey : y = j
        · omega
        · subst ex; rw [up_same, up_ne _ _ ey] at he
          exact absurd he.symm (hn y hy sy)
      · by_cases ey : y = j
        · subst ey; rw [up_same, up_ne _ _ ex] at he
          exact absurd he (hn x hx sx)
        · rw [up_ne _ _ ex, up_ne _ _ ey] at he
          rw [up_ne _ _ ex] at h0
          exact hi x y hx hy sx sy h0 he
    · intro hk x hx sx h0
      by_cases e : x = j
      · subst e; rw [up_same]; simpa using h3
      · rw [up_ne _ _ e] at h0 ⊢; exact hk x hx sx h0
    · by_cases e : x = j
      · subst e; rw [up_same]; exact .inr (by omega)
      · rw [up_ne _ _ e]; exact .inl rfl
  | @more i i2 j sn m m1 h1 h2 h3 h4 _ ih =>
    intro hi hn
    have hsn : ∀ {x}, x ≠ j → sn x = false → up sn j true x = false := fun hx h0 => by rw [up_ne _ _ hx]; exact h0
    have hsn' : ∀ {x}, up sn j true x = false → x ≠ j ∧ sn x = false := fun {x} h0 => by
      by_cases e : x = j
      · subst e; rw [up_same] at h0; cases h0
      · rw [up_ne _ _ e] at h0; exact ⟨e, h0⟩
    obtain ⟨q1, q2, q3, q4, ⟨j0, z1, z2, z3, z4, z5⟩, q6⟩ := ih (fun x y hx hy sx sy h0 he => hi x y hx hy (hsn' sx).2 (hsn' sy).2 h0 he)
      (fun x hx sx he => (hsn' sx).1 (hi x j hx h1 (hsn' sx).2 h2 (by omega) (by rw [he, h4])))
    have hmj : m1 j = (i2 : Nat) := by rw [q1 j (.inl (up_same _ _ _)), h4]
    have hni : ∀ x, x < r → sn x = false → x ≠ j → m1 x ≠ (i : Nat) := fun x hx sx hxj he => by
      rcases (q2 i).1 ⟨x, hx, hsn hxj sx, he⟩ with e | ⟨y, y1, y2, y3⟩
      · exact hn j h1 h2 (by rw [h4, e])
      · exact hn y y1 (hsn' y2).2 y3
    refine ⟨fun x hx => ?_, fun i' => ⟨?_, ?_⟩, ?_, ?_, ⟨j0, z1, (hsn' z2).2, z3, by rw [up_ne _ _ (hsn' z2).1]; exact z4, fun x hx => ?_⟩, fun x => ?_⟩
    · have hxj : x ≠ j := by
        rintro rfl
        rcases hx with hx | hx
        · rw [h2] at hx; cases hx
        · omega
      rw [up_ne _ _ hxj]
      exact q1 x (by rw [up_ne _ _ hxj]; exact hx)
    · rintro ⟨x, x1, x2, x3⟩
      by_cases e : x = j
      · subst e; rw [up_same] at x3; exact .inl (by omega)
      · rw [up_ne _ _ e] at x3
        rcases (q2 i').1 ⟨x, x1, hsn e x2, x3⟩ with rfl | ⟨y, y1, y2, y3⟩
        · exact .inr ⟨j, h1, h2, h4⟩
        · exact .inr ⟨y, y1, (hsn' y2).2, y3⟩
    · rintro (rfl | ⟨x, x1, x2, x3⟩)
      · exact ⟨j, h1, h2, up_same _ _ _⟩
      · by_cases e : x = j
        · subst e
          obtain ⟨y, y1, y2, y3⟩ := (q2 i').2 (.inl (by omega))
          exact ⟨y, y1, (hsn' y2).2, by rw [up_ne _ _ (hsn' y2).1]; exact y3⟩
        · obtain ⟨y, y1, y2, y3⟩ := (q2 i').2 (.inr ⟨x, x1, hsn e x2, x3⟩)
          exact ⟨y, y1, (hsn' y2).2, by rw [up_ne _ _ (hsn' y2).1]; exact y3⟩
    · intro x y hx hy sx sy h0 he
      by_cases ex : x = j
      · by_cases ey : y = j
        · omega
        · subst ex; rw [up_same, up_ne _ _ ey] at he
          exact absurd he.symm (hni y hy sy ey)
      · by_cases ey : y = j
        · subst ey; rw [up_same, up_ne _ _ ex] at he
          exact absurd he (hni x hx sx ex)
        · rw [up_ne _ _ ex, up_ne _ _ ey] at he
          rw [up_ne _ _ ex] at h0
          exact q3 x y hx hy (hsn ex sx) (hsn ey sy) h0 he
    · intro hk x hx sx h0
      by_cases e : x = j
      · subst e; rw [up_same]; simpa using h3
      · rw [up_ne _ _ e] at h0 ⊢
        exact q4 (fun y hy sy => hk y hy (hsn' sy).2) x hx (hsn e sx) h0
    · by_cases e : x = j
      · subst e; rw [up_same, h4]; simp
      · rw [up_ne _ _ e]; exact z5 x hx
    · by_cases e : x = j
      · subst e; rw [up_same]; exact .inr (by omega)
      · rw [up_ne _ _ e]; exact q6 x
/-- A set of right gloves whose partners know none outside it. -/
def Clo (ok : Nat → Nat → Bool) (r : Nat) (m : Nat → Int) (C : Nat → Bool) : Prop := ∀ j, C j = true → j < r ∧ 0 ≤ m j ∧ ∀ j', j' < r → ok (m j).toNat j' = true → C j' = true
theorem Pth.clo {ok : Nat → Nat → Bool} {r i : Nat} {sn : Nat → Bool} {m m' : Nat → Int} {C : Nat → Bool} (h : Pth ok r i sn m m') : Clo ok r m C → (∀ j, C j = true → m' j = m j) ∧ ∃ j, j < r ∧ ok i j = true ∧ C j = false := by
  induction h with
  | @one i j sn m h1 h2 h3 h4 =>
    intro hC
    have hj : C j = false := by
      cases e : C j with
      | false => rfl
      | true => have := (hC j e).2.1; omega
    exact ⟨fun x hx => up_ne _ _ (by rintro rfl; rw [hj] at hx; cases hx), j, h1, h3, hj⟩
  | @more i i2 j sn m m1 h1 h2 h3 h4 _ ih =>
    intro hC
    obtain ⟨a1, j2, a2, a3, a4⟩ := ih hC
    have hj : C j = false := by
      cases e : C j with
      | false => rfl
      | true =>
        have := (hC j e).2.2 j2 a2 (by rw [h4]; simpa using a3)
        rw [a4] at this; cases this
    exact ⟨fun x hx => by rw [up_ne _ _ (by rintro rfl; rw [hj] at hx; cases hx)]; exact a1 x hx, j, h1, h3, hj⟩
/-- The pairing after the first k left gloves, and its size. -/
def kM (ok : Nat → Nat → Bool) (r : Nat) : Nat → (Nat → Int) × Nat
  | 0 => (fun _ => -1, 0)
  | k + 1 => ((kF ok r (r + 1) k (fun _ => false, (kM ok r k).1)).2.2, (kM ok r k).2 + if (kF ok r (r + 1) k (fun _ => false, (kM ok r k).1)).1 = true then 1 else 0)
structure KInv (ok : Nat → Nat → Bool) (r k : Nat) (m : Nat → Int) (n : Nat) : Prop where
  v : ∀ j, m j = -1 ∨ ∃ i : Nat, m j = (i : Nat) ∧ i < k ∧ j < r ∧ ok i j = true
  inj : ∀ j j', 0 ≤ m j → m j = m j' → j = j'
  cnt : n = cN (fun j => decide (0 ≤ m j)) r
  clo : ∃ C : Nat → Bool, Clo ok r m C ∧ ∀ i, i < k → (∃ j, m j = (i : Nat)) ∨ ∀ j, j < r → ok i j = true → C j = true
theorem kM_inv (ok : Nat → Nat → Bool) (r : Nat) : ∀ k, KInv ok r k (kM ok r k).1 (kM ok r k).2
  | 0 => ⟨fun _ => .inl rfl, fun _ _ h => by simp [kM] at h, by
      have : ∀ n, cN (fun j => decide (0 ≤ (kM ok r 0).1 j)) n = 0 := fun n => by
        induction n with
        | zero => rfl
        | succ n ih => simp only [cN]; rw [ih]; simp [kM]
      rw [this]; rfl, ⟨fun _ => false, fun _ h => (by cases h), fun _ h => absurd h (Nat.not_lt_zero _)⟩⟩
  | k + 1 => by
    obtain ⟨v, inj, cnt, C, hC, hfr⟩ := kM_inv ok r k
    simp only [kM]
    generalize hm : (kM ok r k).1 = m at *
    generalize hn : (kM ok r k).2 = n at *
    cases hk : kF ok r (r + 1) k (fun _ => false, m) with
    | mk b s =>
      have hlt : unN (fun _ => false) r < r + 1 := by have : unN (fun _ => false) r ≤ r := cN_le _; omega
      have hvr : ∀ j, 0 ≤ m j → j < r := fun j h => by
        rcases v j with h1 | ⟨i, _, _, h2, _⟩
        · omega
        · exact h2
      cases b with
      | false =>
        obtain ⟨a1, a2, a3, a4⟩ := kF_fail (s := (fun _ => false, m)) hlt hk
        simp only at a1 a2 a3 a4 ⊢
        rw [a1]
        refine ⟨fun j => ?_, inj, by simpa using cnt, fun j => C j || s.1 j, fun j hj => ?_, fun i hi => ?_⟩
        · rcases v j with h | ⟨i, h1, h2, h3⟩
          · exact .inl h
          · exact .inr ⟨i, h1, by omega, h3⟩
        · simp only [Bool.or_eq_true] at hj ⊢
          cases e : C j with
          | true =>
            obtain ⟨c1, c2, c3⟩ := hC j e
            exact ⟨c1, c2, fun j' h1 h2 => .inl (c3 j' h1 h2)⟩
          | false =>
            rw [e] at hj
            obtain ⟨c1, c2, c3⟩ := a4 j (by simpa using hj) trivial
            exact ⟨c1, c2, fun j' h1 h2 => .inr (c3 j' h1 h2)⟩
        · simp only [Bool.or_eq_true]
          by_cases e : i = k
          · subst e
            exact .inr fun j hj hok => .inr (a3 j (List.mem_range.2 hj) hok)
          · rcases hfr i (by omega) with h | h
            · exact .inl h
            · exact .inr fun j hj hok => .inl (h j hj hok)
      | true =>
        have hp := kF_pth (s := (fun _ => false, m)) hlt hk
        simp only at hp ⊢
        have hg := hp.good (fun x y _ _ _ _ h0 he => inj x y h0 he) (fun x _ _ he => by
          rcases v x with h | ⟨i, h1, h2, _⟩
          · omega
          · omega)
        obtain ⟨g1, j0, _⟩ := hp.clo hC
        obtain ⟨q1, q2, q3, q4, ⟨j0, z1, z2, z3, z4, z5⟩, q6⟩ := hg
        have hvr' : ∀ j, 0 ≤ s.2 j → j < r := fun j h => by
          rcases Nat.lt_or_ge j r with h1 | h1
          · exact h1
          · have := q1 j (.inr h1)
            exact hvr j (by omega)
        refine ⟨fun j => ?_, fun x y h0 he => q3 x y (hvr' x h0) (hvr' y (by omega)) rfl rfl h0 he, ?_, C, fun j hj => ?_, fun i hi => ?_⟩
        · rcases Nat.lt_or_ge j r with hj | hj
          · by_cases h0 : 0 ≤ s.2 j
            · refine .inr ⟨(s.2 j).toNat, by omega, ?_, hj, q4 (fun x hx _ h => ?_) j hj rfl h0⟩
              · rcases (q2 (s.2 j).toNat).1 ⟨j, hj, rfl, by omega⟩ with e | ⟨x, _, _, e⟩
                · omega
                · rcases v x with h | ⟨i, h1, h2, _⟩
                  · omega
                  · omega
              · rcases v x with h1 | ⟨i, h1, _, _, h2⟩
                · omega
                · rw [h1]; simpa using h2
            · rcases q6 j with h | h
              · rcases v j with h1 | ⟨i, h1, _⟩
                · exact .inl (by omega)
                · omega
              · omega
          · have := q1 j (.inr hj)
            rcases v j with h1 | ⟨i, h1, _, h2, _⟩
            · exact .inl (by omega)
            · omega
        · rw [cN_one (p := fun j => decide (0 ≤ m j)) (j0 := j0) (by simpa using z3) (by simpa using z4) (fun j hj => by simp [z5 j hj]) z1, ← cnt]; simp
        · obtain ⟨c1, c2, c3⟩ := hC j hj
          rw [g1 j hj]
          exact ⟨c1, c2, c3⟩
        · by_cases e : i = k
          · subst e
            obtain ⟨x, _, _, hx⟩ := (q2 i).2 (.inl rfl)
            exact .inl ⟨x, hx⟩
          · rcases hfr i (by omega) with ⟨x, hx⟩ | h
            · obtain ⟨y, _, _, hy⟩ := (q2 i).2 (.inr ⟨x, hvr x (by omega), rfl, hx⟩)
              exact .inl ⟨y, hy⟩
            · exact .inr h
/-- A pairing, by right gloves. -/
def Mch (ok : Nat → Nat → Bool) (l r : Nat) (m : Nat → Int) : Prop := (∀ j, j < r → 0 ≤ m j → m j < (l : Nat) ∧ ok (m j).toNat j = true) ∧ ∀ j j', j < r → j' < r → 0 ≤ m j → m j = m j' → j = j'
/-- No pairing is greater. -/
theorem KInv.max {ok : Nat → Nat → Bool} {r l n : Nat} {m μ : Nat → Int} (h : KInv ok r l m n) (hμ : Mch ok l r μ) : cN (fun j => decide (0 ≤ μ j)) r ≤ n := by
  obtain ⟨v, inj, cnt, C, hC, hfr⟩ := h
  rw [cnt]
  have hvr : ∀ j, 0 ≤ m j → j < r := fun j h => by
    rcases v j with h1 | ⟨i, _, _, h2, _⟩
    · omega
    · exact h2
  have key : ∀ j, j < r → 0 ≤ μ j → ∃ x, x < r ∧ 0 ≤ m x ∧ (C j = true → x = j) ∧ (C j = false → C x = false ∧ m x = μ j) := fun j hj h0 => by
    obtain ⟨k1, k2⟩ := hμ.1 j hj h0
    cases e : C j with
    | true =>
      obtain ⟨_, c2, _⟩ := hC j e
      exact ⟨j, hj, c2, fun _ => rfl, fun h => by cases h⟩
    | false =>
      rcases hfr (μ j).toNat (by omega) with ⟨x, hx⟩ | hx
      · refine ⟨x, hvr x (by omega), by omega, fun h => (by cases h), fun _ => ⟨?_, by omega⟩⟩
        cases ex : C x with
        | false => rfl
        | true =>
          have := (hC x ex).2.2 j hj (by rw [hx, Int.toNat_natCast]; exact k2)
          rw [e] at this; cases this
      · have := hx j hj k2
        rw [e] at this; cases this
  refine cN_inj (fun j => if h : j < r ∧ 0 ≤ μ j then (key j h.1 h.2).choose else 0) (fun j hj hp => ?_) (fun j j' hj hj' hp hp' he => ?_)
  · have h0 : 0 ≤ μ j := by simpa using hp
    rw [dif_pos ⟨hj, h0⟩]
    have := (key j hj h0).choose_spec
    exact ⟨this.1, by simpa using this.2.1⟩
  · have h0 : 0 ≤ μ j := by simpa using hp
    have h0' : 0 ≤ μ j' := by simpa using hp'
    rw [dif_pos ⟨hj, h0⟩, dif_pos ⟨hj', h0'⟩] at he
    obtain ⟨_, _, a1, a2⟩ := (key j hj h0).choose_spec
    obtain ⟨_, _, b1, b2⟩ := (key j' hj' h0').choose_spec
    rw [he] at a1 a2
    cases e : C j with
    | true =>
      cases e' : C j' with
      | true => rw [← a1 e, b1 e']
      | false =>
        have := (b2 e').1
        rw [a1 e, e] at this; cases this
    | false =>
      cases e' : C j' with
      | true =>
        have := (a2 e).1
        rw [b1 e', e'] at this; cases this
      | false => exact hμ.2 j j' hj hj' h0 (by rw [← (a2 e).2, (b2 e').2])
theorem KInv.mch {ok : Nat → Nat → Bool} {r l n : Nat} {m : Nat → Int} (h : KInv ok r l m n) : Mch ok l r m := by
  refine ⟨fun j _ h0 => ?_, fun j j' _ _ h0 he => h.inj j j' h0 he⟩
  rcases h.v j with h1 | ⟨i, h1, h2, _, h3⟩
  · omega
  · rw [h1]; exact ⟨by omega, by simpa using h3⟩
end Go.Proofs.Ytajpngnphbdnnaa.Hung
namespace Go.Proofs.Ytajpngnphbdnnaa.Abs
set_option linter.unusedSimpArgs false
set_option linter.unusedVariables false
open Go.RowKit
open Go.Proofs.Ytajpngnphbdnnaa.Sim
open Go.Proofs
open Hung
/-- The memory in which block p holds what is seen and block q who is paired. -/
def KM (m : AM) (p q r : Nat) (s : KS) : AM := (m.set p (some { cells := bv (tabB s.1 r) })).set q (some { cells := iv (tab s.2 r) })
section
variable {m : AM} {p q r : Nat} {s : KS}
theorem KM.len : (KM m p q r s).length = m.length := by simp [KM]
theorem KM.getp (hp : p < m.length) (hpq : p ≠ q) : (KM m p q r s)[p]? = some (some { cells := bv (tabB s.1 r) }) := by
  unfold KM; rw [List.getElem?_set_ne (Ne.symm hpq)]; simp [hp]
theorem KM.getq (hq : q < m.length) : (KM m p q r s)[q]? = some (some { cells := iv (tab s.2 r) }) := by
  unfold KM; simp [hq]
theorem KM.seen {j : Nat} {b : Bool} (hp : p < m.length) (hpq : p ≠ q) (hj : j < r) (hb : s.1 j = b) : Rd (KM m p q r s) p j (.bool b) :=
  ⟨_, KM.getp hp hpq, by subst hb; have := bv_get (l := tabB s.1 r) (k := j) (by simpa using hj); rwa [tabB_get s.1 hj] at this⟩
theorem KM.mate {j : Nat} {x : Int} (hq : q < m.length) (hj : j < r) (hx : s.2 j = x) : Rd (KM m p q r s) q j (.int .i64 x) :=
  ⟨_, KM.getq hq, by subst hx; have := iv_get (l := tab s.2 r) (k := j) (by simpa using hj); rwa [tab_get s.2 hj] at this⟩
theorem KM.set1 {j : Nat} (hpq : p ≠ q) : (KM m p q r s).set p (some { cells := (bv (tabB s.1 r)).set j (.bool true) }) = KM m p q r (up s.1 j true, s.2) := by
  unfold KM
  rw [List.set_comm _ _ hpq, bv_set, tabB_set, List.set_set, List.set_comm _ _ hpq]
theorem KM.set2 {j : Nat} {x : Int} : (KM m p q r s).set q (some { cells := (iv (tab s.2 r)).set j (.int .i64 x) }) = KM m p q r (s.1, up s.2 j x) := by
  unfold KM
  rw [iv_set, tab_set, List.set_set]
end
section
variable {P : Program} {nt : Nat} {ops : Array Oper} {t : Fm} {m : AM} {K : Fm → AM → Prop} {T : Nat} {pp : String} {af : Array Edge}
theorem Step.kmSeen {x y : Operand} {ty : TypeId} {p q r j : Nat} {s : KS} (hx : evo t x = some (.pointer (some ⟨p, j, none⟩))) (hy : evo t y = some (.bool true)) (hz : szB P ty = some 1) (hp : p < m.length) (hpq : p ≠ q) (hj : j < r) (hK : K t (KM m p q r (up s.1 j true, s.2))) :
    Step P nt ops ⟨none, .store ty x y, T, pp, af, none⟩ t (KM m p q r s) K :=
  Step.storeC hx hy (KM.getp hp hpq) rfl hz rfl rfl (by rw [bv_len, tabB_len]; exact hj) (by rw [← KM.set1 (j := j) hpq] at hK; exact hK)
theorem Step.kmMate {x y : Operand} {ty : TypeId} {p q r j : Nat} {v : Int} {s : KS} (hx : evo t x = some (.pointer (some ⟨q, j, none⟩))) (hy : evo t y = some (.int .i64 v)) (hz : szB P ty = some 1) (hq : q < m.length) (hj : j < r) (hK : K t (KM m p q r (s.1, up s.2 j v))) :
    Step P nt ops ⟨none, .store ty x y, T, pp, af, none⟩ t (KM m p q r s) K :=
  Step.storeC hx hy (KM.getq hq) rfl hz rfl rfl (by rw [iv_len, tab_len]; exact hj) (by rw [← KM.set2 (j := j) (x := v)] at hK; exact hK)
end
/-- Which pairs are looked at. -/
def okc (c : Nat → Nat → Int) (mo : Int) (i j : Nat) : Bool := decide (0 ≤ c i j) && decide (c i j ≤ mo)
theorem okc_no1 {c : Nat → Nat → Int} {mo : Int} {i j : Nat} (h : c i j < 0) : okc c mo i j = false := by
  unfold okc; rw [decide_eq_false (by omega)]; rfl
theorem okc_no2 {c : Nat → Nat → Int} {mo : Int} {i j : Nat} (h : mo < c i j) : okc c mo i j = false := by
  unfold okc; rw [decide_eq_false (p := c i j ≤ mo) (by omega)]; simp
theorem okc_yes {c : Nat → Nat → Int} {mo : Int} {i j : Nat} (h1 : ¬ c i j < 0) (h2 : ¬ mo < c i j) : okc c mo i j = true := by
  unfold okc; rw [decide_eq_true (by omega), decide_eq_true (by omega)]; rfl
def KBd (l : Nat) (m : Nat → Int) : Prop := ∀ j, -1 ≤ m j ∧ m j < (l : Nat)
theorem fromI_cons {k r : Nat} (h : k < r) : fromI k r = k :: fromI (k + 1) r := by
  unfold fromI
  rw [show r - k = r - (k + 1) + 1 by omega]; rfl
theorem fromI_nil {r : Nat} : fromI r r = [] := by unfold fromI; rw [Nat.sub_self]; rfl
theorem fromI_zero (r : Nat) : fromI 0 r = List.range r := by unfold fromI; rw [List.range_eq_range']; rfl
theorem unN_next {s s2 : KS} {ok : Nat → Nat → Bool} {r f i : Nat} (hu : unN s.1 r < f) (h : kF ok r f i s = (false, s2)) : unN s2.1 r ≤ unN s.1 r ∧ s2.2 = s.2 := by
  obtain ⟨h1, h2, _⟩ := kF_fail hu h
  exact ⟨unN_mono h2, h1⟩
theorem KM.app {m : AM} {r : Nat} {x y : Option Blk} {s : KS} : KM (m ++ [x, y]) (m.length + 1) (m.length + 0) r s = m ++ [some { cells := iv (tab s.2 r) }, some { cells := bv (tabB s.1 r) }] := by
  unfold KM
  rw [List.set_append_right _ _ (by omega), List.set_append_right _ _ (by omega)]
  simp
theorem kinv_bd {ok : Nat → Nat → Bool} {r k l n : Nat} {m : Nat → Int} (h : KInv ok r k m n) (hk : k ≤ l) : KBd l m := fun j => by
  rcases h.v j with h1 | ⟨i, h1, h2, _⟩ <;> omega
end Go.Proofs.Ytajpngnphbdnnaa.Abs
namespace Go.Proofs.Ytajpngnphbdnnaa.Abs
set_option linter.unusedSimpArgs false
set_option linter.unusedVariables false
open Go.RowKit
open Go.Proofs.Ytajpngnphbdnnaa.Sim
open Go.Proofs
open Hung
theorem ze27 : zeroB Try.prog 27 = some #[.slice none 0 0] := by kernel_rfl
theorem ze112 : zeroB Try.prog 112 = some #[.nilFunc] := by kernel_rfl
section
variable {m : AM} {p q r : Nat} {s : KS}
theorem KM.self (h1 : m[p]? = some (some { cells := bv (tabB s.1 r) })) (h2 : m[q]? = some (some { cells := iv (tab s.2 r) })) : KM m p q r s = m := by
  have e : ∀ {a : Nat} {x : Option Blk}, m[a]? = some x → m.set a x = m := fun {a x} h => by
    apply List.ext_getElem?
    intro i
    by_cases e : i = a
    · subst e; rw [List.getElem?_set_self (List.getElem?_eq_some_iff.1 h).1, h]
    · rw [List.getElem?_set_ne (Ne.symm e)]
  unfold KM
  rw [e h1, e h2]
theorem KM.ne {a : Nat} (h1 : a ≠ p) (h2 : a ≠ q) : (KM m p q r s)[a]? = m[a]? := by
  unfold KM
  rw [List.getElem?_set_ne (Ne.symm h2), List.getElem?_set_ne (Ne.symm h1)]
theorem KM.pre {N : AM} (h1 : m.length ≤ p) (h2 : m.length ≤ q) : ∃ N', KM (m ++ N) p q r s = m ++ N' := by
  unfold KM
  obtain ⟨N1, e1⟩ := pre_set (m := m) (N := N) (p := p) (x := some { cells := bv (tabB s.1 r) }) h1
  rw [e1]
  exact pre_set h2
end
section
variable {P : Program} {nt : Nat} {ops : Array Oper} {t : Fm} {m : AM} {K : Fm → AM → Prop} {T : Nat} {pp : String} {af : Array Edge}
/-- A variable of one cell is set. -/
theorem Step.storeV {x y : Operand} {ty : TypeId} {a : Nat} {v0 v : Value} {M2 : AM} (hx : evo t x = some (.pointer (some ⟨a, 0, none⟩))) (hy : evo t y = some v) (hb : m[a]? = some (some { cells := [v0] })) (hz : szB P ty = some 1) (hc : v.cells = #[v]) (h1 : v.oneCell' = true) (hM : m.set a (some { cells := [v] }) = M2) (hK : K t M2) :
    Step P nt ops ⟨none, .store ty x y, T, pp, af, none⟩ t m K :=
  Step.storeC hx hy hb rfl hz hc h1 (by simp) (by subst hM; exact hK)
end
theorem rd_at {m : AM} {a o : Nat} {v : Value} {b : Blk} (h : m[a]? = some (some b)) (hv : b.cells[o]? = some v) : Rd m a o v := ⟨b, h, hv⟩
set_option maxHeartbeats 4000000 in
set_option maxRecDepth 100000 in
theorem find_ok {m0 m : AM} {tv : Value} {c : Nat → Nat → Int} {l r p q a1 a2 a3 a4 a5 : Nat} {mo : Int} (hp : p < m.length) (hq : q < m.length) (hpq : p ≠ q) (hl32 : l ≤ 32) (hr32 : r ≤ 32) (hm : ∀ s, ∃ N, KM m p q r s = m0 ++ N) (hT : Tab m0 tv c l r)
    (h1 : ∀ s, Rd (KM m p q r s) a1 0 tv) (h2 : ∀ s, Rd (KM m p q r s) a2 0 (.int .i64 mo)) (h3 : ∀ s, Rd (KM m p q r s) a3 0 (.slice (some ⟨p, 0, none⟩) r r)) (h4 : ∀ s, Rd (KM m p q r s) a4 0 (.slice (some ⟨q, 0, none⟩) r r))
    (h5 : ∀ s, Rd (KM m p q r s) a5 0 (.func (.func 97) #[] #[.pointer (some ⟨a1, 0, none⟩), .pointer (some ⟨a2, 0, none⟩), .pointer (some ⟨a3, 0, none⟩), .pointer (some ⟨a4, 0, none⟩), .pointer (some ⟨a5, 0, none⟩)])) :
    ∀ (f i : Nat) (s : KS), i < l → unN s.1 r < f → KBd l s.2 → ACall Try.prog 97 #[.int .i64 (i : Nat), .pointer (some ⟨a1, 0, none⟩), .pointer (some ⟨a2, 0, none⟩), .pointer (some ⟨a3, 0, none⟩), .pointer (some ⟨a4, 0, none⟩), .pointer (some ⟨a5, 0, none⟩)] (KM m p q r s) (Ret (.bool (kF (okc c mo) r f i s).1) (KM m p q r (kF (okc c mo) r f i s).2))
  | 0, _, _, _, h, _ => by omega
  | f + 1, i, s, hi, hu, hb => by
    have IH := find_ok (mo := mo) hp hq hpq hl32 hr32 hm hT h1 h2 h3 h4 h5 f
    obtain ⟨a, cv, b, o, rfl, t1, t2, t3, t4, t5, t6, t7⟩ := id hT
    obtain ⟨w, q1, rb, ro, w1, w2, w3⟩ := t7 i hi
    rw [tab_len] at w1 w3
    have g1 : ∀ s, Rd (KM m p q r s) a 0 cv := fun s => by obtain ⟨N, hN⟩ := hm s; rw [hN]; exact t2.old N
    have g2 : ∀ s, Rd (KM m p q r s) b (o + i) w := fun s => by obtain ⟨N, hN⟩ := hm s; rw [hN]; exact q1.old N
    have g3 : ∀ s j, j < r → Rd (KM m p q r s) rb (ro + j) (.int .i64 (c i j)) := fun s j hj => by
      obtain ⟨N, hN⟩ := hm s; rw [hN]
      have := w3 j hj
      rw [tab_get (c i) hj] at this
      exact this.old N
    obtain ⟨b', e, hres⟩ : ∃ b' e, kF (okc c mo) r (f + 1) i s = (b', e) := ⟨_, _, rfl⟩
    rw [hres]
    have h0 : kL (okc c mo) (kF (okc c mo) r f) i (fromI 0 r) s = (b', e) := by rw [fromI_zero]; exact hres
    clear hres
    refine ACall.intro Try.func97 rfl (Nat.le_of_ble_eq_true rfl) ?_
    (repeat (first | (with_reducible refine AWo.cons ?_) | ((with_reducible refine Step.id ?_); first | ((with_reducible apply Step.move); exact rfl; exact rfl) | ((with_reducible apply Step.assign); exact rfl; exact rfl) | ((with_reducible apply Step.load); exact rfl; (focus (decide +kernel)); exact rfl; (focus (first | exact h1 _ | exact g1 _ | exact g2 _))) | ((with_reducible apply Step.ix1); exact rfl; (focus (assumption)); exact rfl; (focus (decide +kernel)); exact rfl; (focus (omega))) | ((with_reducible apply Step.field0); exact rfl; (focus (decide +kernel)); exact rfl) | ((with_reducible apply Step.len); exact rfl; (focus (assumption)); (focus (decide +kernel)); exact rfl) | ((with_reducible apply Step.nilp); exact rfl; exact rfl)) | (with_reducible refine AWo.nil ?_) | ((with_reducible apply AW.seq)) | ((with_reducible apply Then.n)) | ((with_reducible apply AW.regL)) | ((with_reducible apply AW.block))))
    refine AW.loopW (fun u t M => ∃ (k : Nat) (s' : KS), u = r - k ∧ k ≤ r ∧ kL (okc c mo) (kF (okc c mo) r f) i (fromI k r) s' = (b', e) ∧ unN s'.1 r < f + 1 ∧ KBd l s'.2 ∧ M = KM m p q r s' ∧
      t = fr [(0, .int .i64 (i : Nat)), (1, .pointer (some ⟨a1, 0, none⟩)), (2, .pointer (some ⟨a2, 0, none⟩)), (3, .pointer (some ⟨a3, 0, none⟩)), (4, .pointer (some ⟨a4, 0, none⟩)), (5, .pointer (some ⟨a5, 0, none⟩)), (16, w), (17, .int .i64 (r : Nat)), (18, .int .i64 (k : Nat))])
      ⟨_, _, (by repeat (first | exact trivial | (refine And.intro rfl ?_))), 0, s, rfl, Nat.zero_le _, h0, hu, hb, rfl, rfl⟩ ?_
    clear h0 hu hb
    rintro u t M ⟨k, s', rfl, hk, hL, hu, hb, rfl, rfl⟩
    rcases Nat.lt_or_ge k r with hkr | hkr
    · rw [fromI_cons hkr] at hL
      simp only [kL] at hL
      have q5 := g3 s' k hkr
      by_cases hcn : c i k < 0
      · rw [if_pos (.inl (okc_no1 hcn))] at hL
        (repeat (first | (with_reducible refine AWo.cons ?_) | ((with_reducible refine Step.id ?_); first | ((with_reducible apply Step.gdF); exact rfl; exact rfl; (focus (first | rfl | (simp only [decide_eq_true_eq, decide_eq_false_iff_not, Bool.not_eq_true', Bool.not_eq_false', Bool.not_true, Bool.not_false]; first | assumption | omega)))) | ((with_reducible apply Step.move); exact rfl; exact rfl) | ((with_reducible apply Step.assign); exact rfl; exact rfl) | ((with_reducible apply Step.load); exact rfl; (focus (decide +kernel)); exact rfl; (focus (assumption))) | ((with_reducible apply Step.ix1); exact rfl; (focus (assumption)); exact rfl; (focus (decide +kernel)); exact rfl; (focus (omega))) | ((with_reducible apply Step.add); exact rfl; exact rfl; (focus (omega)); exact rfl) | ((with_reducible apply Step.lss); exact rfl; exact rfl; exact rfl) | ((with_reducible apply Step.pickT); exact rfl; exact rfl; exact rfl; exact rfl; (focus (first | rfl | (simp only [decide_eq_true_eq, decide_eq_false_iff_not, Bool.not_eq_true', Bool.not_eq_false', Bool.not_true, Bool.not_false]; first | assumption | omega))))) | (with_reducible refine AWo.nil ?_) | ((with_reducible apply AW.seq)) | ((with_reducible apply Then.n)) | ((with_reducible apply AW.regL)) | ((with_reducible apply AW.block)) | ((with_reducible apply AW.exit)) | ((with_reducible apply InBlk.hit)) | ((with_reducible apply Then.e)) | ((with_reducible apply AW.skip)) | ((with_reducible apply AW.condT); exact rfl; (focus (first | rfl | (simp only [decide_eq_true_eq, decide_eq_false_iff_not, Bool.not_eq_true', Bool.not_eq_false', Bool.not_true, Bool.not_false]; first | assumption | omega))))))
        exact ⟨_, _, by omega, (by repeat (first | exact trivial | (refine And.intro rfl ?_))), k + 1, s', rfl, by omega, hL, hu, hb, rfl, rfl⟩
      by_cases hcm : mo < c i k
      · rw [if_pos (.inl (okc_no2 hcm))] at hL
        (repeat (first | (with_reducible refine AWo.cons ?_) | ((with_reducible refine Step.id ?_); first | ((with_reducible apply Step.gdT); exact rfl; exact rfl; (focus ((simp only [decide_eq_true_eq, decide_eq_false_iff_not, Bool.not_eq_true', Bool.not_eq_false', Bool.not_true, Bool.not_false]; first | assumption | omega)))) | ((with_reducible apply Step.gdF); exact rfl; exact rfl; (focus ((simp only [decide_eq_true_eq, decide_eq_false_iff_not, Bool.not_eq_true', Bool.not_eq_false', Bool.not_true, Bool.not_false]; first | assumption | omega)))) | ((with_reducible apply Step.move); exact rfl; exact rfl) | ((with_reducible apply Step.assign); exact rfl; exact rfl) | ((with_reducible apply Step.load); exact rfl; (focus (decide +kernel)); exact rfl; (focus (first | assumption | exact h2 _))) | ((with_reducible apply Step.ix1); exact rfl; (focus (assumption)); exact rfl; (focus (decide +kernel)); exact rfl; (focus (omega))) | ((with_reducible apply Step.add); exact rfl; exact rfl; (focus (omega)); exact rfl) | ((with_reducible apply Step.lss); exact rfl; exact rfl; exact rfl) | ((with_reducible apply Step.gtr); exact rfl; exact rfl; exact rfl) | ((with_reducible apply Step.pickT); exact rfl; exact rfl; exact rfl; exact rfl; (focus ((simp only [decide_eq_true_eq, decide_eq_false_iff_not, Bool.not_eq_true', Bool.not_eq_false', Bool.not_true, Bool.not_false]; first | assumption | omega)))) | ((with_reducible apply Step.pickF); exact rfl; exact rfl; exact rfl; exact rfl; (focus ((simp only [decide_eq_true_eq, decide_eq_false_iff_not, Bool.not_eq_true', Bool.not_eq_false', Bool.not_true, Bool.not_false]; first | assumption | omega))))) | (with_reducible refine AWo.nil ?_) | ((with_reducible apply AW.seq)) | ((with_reducible apply Then.n)) | ((with_reducible apply AW.regL)) | ((with_reducible apply AW.block)) | ((with_reducible apply AW.exit)) | ((with_reducible apply InBlk.hit)) | ((with_reducible apply Then.e)) | ((with_reducible apply AW.skip)) | ((with_reducible apply AW.condT); exact rfl; (focus (first | rfl | (simp only [decide_eq_true_eq, decide_eq_false_iff_not, Bool.not_eq_true', Bool.not_eq_false', Bool.not_true, Bool.not_false]; first | assumption | omega))))))
        exact ⟨_, _, by omega, (by repeat (first | exact trivial | (refine And.intro rfl ?_))), k + 1, s', rfl, by omega, hL, hu, hb, rfl, rfl⟩
      cases hs : s'.1 k with
      | true =>
        rw [if_pos (.inr hs)] at hL
        have r1 := KM.seen (r := r) hp hpq hkr hs
        (repeat (first | (with_reducible refine AWo.cons ?_) | ((with_reducible refine Step.id ?_); first | ((with_reducible apply Step.gdT); exact rfl; exact rfl; (focus ((simp only [decide_eq_true_eq, decide_eq_false_iff_not, Bool.not_eq_true', Bool.not_eq_false', Bool.not_true, Bool.not_false]; first | assumption | omega)))) | ((with_reducible apply Step.move); exact rfl; exact rfl) | ((with_reducible apply Step.assign); exact rfl; exact rfl) | ((with_reducible apply Step.load); exact rfl; (focus (decide +kernel)); exact rfl; (focus (first | assumption | exact h2 _ | exact h3 _))) | ((with_reducible apply Step.ix1z); exact rfl; (focus (exact Sl.mk (by omega))); exact rfl; (focus (decide +kernel)); exact rfl; (focus (omega))) | ((with_reducible apply Step.ix1); exact rfl; (focus (assumption)); exact rfl; (focus (decide +kernel)); exact rfl; (focus (omega))) | ((with_reducible apply Step.add); exact rfl; exact rfl; (focus (omega)); exact rfl) | ((with_reducible apply Step.lss); exact rfl; exact rfl; exact rfl) | ((with_reducible apply Step.gtr); exact rfl; exact rfl; exact rfl) | ((with_reducible apply Step.pickF); exact rfl; exact rfl; exact rfl; exact rfl; (focus ((simp only [decide_eq_true_eq, decide_eq_false_iff_not, Bool.not_eq_true', Bool.not_eq_false', Bool.not_true, Bool.not_false]; first | assumption | omega))))) | (with_reducible refine AWo.nil ?_) | ((with_reducible apply AW.seq)) | ((with_reducible apply Then.n)) | ((with_reducible apply AW.regL)) | ((with_reducible apply AW.block)) | ((with_reducible apply AW.exit)) | ((with_reducible apply InBlk.hit)) | ((with_reducible apply Then.e)) | ((with_reducible apply AW.skip)) | ((with_reducible apply AW.condT); exact rfl; (focus (first | rfl | (simp only [decide_eq_true_eq, decide_eq_false_iff_not, Bool.not_eq_true', Bool.not_eq_false', Bool.not_true, Bool.not_false]; first | assumption | omega))))))
        exact ⟨_, _, by omega, (by repeat (first | exact trivial | (refine And.intro rfl ?_))), k + 1, s', rfl, by omega, hL, hu, hb, rfl, rfl⟩
      | false =>
        rw [if_neg (by rw [okc_yes hcn hcm, hs]; simp)] at hL
        have r1 := KM.seen (r := r) hp hpq hkr hs
        have hun := unN_up hkr hs
        (repeat (first | (with_reducible refine AWo.cons ?_) | ((with_reducible refine Step.id ?_); first | ((with_reducible apply Step.gdT); exact rfl; exact rfl; (focus ((simp only [decide_eq_true_eq, decide_eq_false_iff_not, Bool.not_eq_true', Bool.not_eq_false', Bool.not_true, Bool.not_false]; first | assumption | omega)))) | ((with_reducible apply Step.move); exact rfl; exact rfl) | ((with_reducible apply Step.assign); exact rfl; exact rfl) | ((with_reducible apply Step.load); exact rfl; (focus (decide +kernel)); exact rfl; (focus (first | assumption | exact h2 _ | exact h3 _))) | ((with_reducible apply Step.ix1z); exact rfl; (focus (exact Sl.mk (by omega))); exact rfl; (focus (decide +kernel)); exact rfl; (focus (omega))) | ((with_reducible apply Step.ix1); exact rfl; (focus (assumption)); exact rfl; (focus (decide +kernel)); exact rfl; (focus (omega))) | ((with_reducible apply Step.lss); exact rfl; exact rfl; exact rfl) | ((with_reducible apply Step.gtr); exact rfl; exact rfl; exact rfl) | ((with_reducible apply Step.pickF); exact rfl; exact rfl; exact rfl; exact rfl; (focus ((simp only [decide_eq_true_eq, decide_eq_false_iff_not, Bool.not_eq_true', Bool.not_eq_false', Bool.not_true, Bool.not_false]; first | assumption | omega))))) | (with_reducible refine AWo.nil ?_) | ((with_reducible apply AW.seq)) | ((with_reducible apply Then.n)) | ((with_reducible apply AW.regL)) | ((with_reducible apply AW.block)) | ((with_reducible apply AW.skip)) | ((with_reducible apply AW.condT); exact rfl; (focus ((simp only [decide_eq_true_eq, decide_eq_false_iff_not, Bool.not_eq_true', Bool.not_eq_false', Bool.not_true, Bool.not_false]; first | assumption | omega)))) | ((with_reducible apply AW.condF); exact rfl; (focus (rfl)))))
        ((with_reducible apply Step.kmSeen); exact rfl; exact rfl; (focus (decide +kernel)); exact hp; exact hpq; exact hkr)
        have r2 : Rd (KM m p q r (up s'.1 k true, s'.2)) q k (.int .i64 (s'.2 k)) := KM.mate hq hkr rfl
        have hbk := hb k
        by_cases hm' : s'.2 k < 0
        · rw [if_pos hm'] at hL
          injection hL with e1 e2
          subst e1 e2
          (repeat (first | (with_reducible refine AWo.cons ?_) | ((with_reducible refine Step.id ?_); first | ((with_reducible apply Step.gdF); exact rfl; exact rfl; (focus ((simp only [decide_eq_true_eq, decide_eq_false_iff_not, Bool.not_eq_true', Bool.not_eq_false', Bool.not_true, Bool.not_false]; first | assumption | omega)))) | ((with_reducible apply Step.move); exact rfl; exact rfl) | ((with_reducible apply Step.load); exact rfl; (focus (decide +kernel)); exact rfl; (focus (first | assumption | exact h4 _))) | ((with_reducible apply Step.ix1z); exact rfl; (focus (exact Sl.mk (by omega))); exact rfl; (focus (decide +kernel)); exact rfl; (focus (omega))) | ((with_reducible apply Step.lss); exact rfl; exact rfl; exact rfl) | ((with_reducible apply Step.pickT); exact rfl; exact rfl; exact rfl; exact rfl; (focus ((simp only [decide_eq_true_eq, decide_eq_false_iff_not, Bool.not_eq_true', Bool.not_eq_false', Bool.not_true, Bool.not_false]; first | assumption | omega))))) | (with_reducible refine AWo.nil ?_) | ((with_reducible apply AW.seq)) | ((with_reducible apply Then.n)) | ((with_reducible apply AW.regL)) | ((with_reducible apply AW.drawL fit); (focus (decide +kernel))) | ((with_reducible apply AW.condT); exact rfl; (focus (rfl)))))
          ((with_reducible apply Step.kmMate); exact rfl; exact rfl; (focus (decide +kernel)); exact hq; exact hkr)
          (repeat (first | (with_reducible refine AWo.cons ?_) | ((with_reducible refine Step.id ?_); ((with_reducible apply Step.assign); exact rfl; exact rfl)) | (with_reducible refine AWo.nil ?_) | ((with_reducible apply AW.seq)) | ((with_reducible apply Then.n)) | ((with_reducible apply AW.regL))))
          (refine AW.ret ?_; (repeat (first | refine Then.r ?_ | refine InBlk.r ?_)))
          exact ⟨_, rfl, rfl, rfl⟩
        · rw [if_neg hm'] at hL
          obtain ⟨i2, hi2⟩ : ∃ i2 : Nat, s'.2 k = (i2 : Nat) := ⟨(s'.2 k).toNat, by omega⟩
          rw [hi2] at hL r2 hbk hm'
          simp only [Int.toNat_natCast] at hL
          have hc := IH i2 (up s'.1 k true, s'.2) (by omega) (by simp only; omega) hb
          cases hr : kF (okc c mo) r f i2 (up s'.1 k true, s'.2) with
          | mk b2 s2 =>
            rw [hr] at hL hc
            cases b2 with
            | true =>
              simp only at hL hc
              injection hL with e1 e2
              subst e1 e2
              (repeat (first | (with_reducible refine AWo.cons ?_) | ((with_reducible refine Step.id ?_); first | ((with_reducible apply Step.gdT); exact rfl; exact rfl; (focus (rfl))) | ((with_reducible apply Step.move); exact rfl; exact rfl) | ((with_reducible apply Step.load); exact rfl; (focus (decide +kernel)); exact rfl; (focus (first | assumption | exact h4 _ | exact h5 _))) | ((with_reducible apply Step.ix1z); exact rfl; (focus (exact Sl.mk (by omega))); exact rfl; (focus (decide +kernel)); exact rfl; (focus (omega))) | ((with_reducible apply Step.lss); exact rfl; exact rfl; exact rfl)) | (with_reducible refine AWo.nil ?_) | ((with_reducible apply AW.seq)) | ((with_reducible apply Then.n)) | ((with_reducible apply AW.drawL fit); (focus (decide +kernel)))))
              ((with_reducible apply Step.call fit); exact rfl; exact rfl; exact Try.func97; exact rfl; exact rfl; exact hc)
              rintro _ _ ⟨rfl, rfl⟩
              (repeat (first | (with_reducible refine AWo.cons ?_) | ((with_reducible refine Step.id ?_); first | ((with_reducible apply Step.move); exact rfl; exact rfl) | ((with_reducible apply Step.load); exact rfl; (focus (decide +kernel)); exact rfl; (focus (exact h4 _))) | ((with_reducible apply Step.ix1z); exact rfl; (focus (exact Sl.mk (by omega))); exact rfl; (focus (decide +kernel)); exact rfl; (focus (omega))) | ((with_reducible apply Step.pickF); exact rfl; exact rfl; exact rfl; exact rfl; (focus (rfl)))) | (with_reducible refine AWo.nil ?_) | ((with_reducible apply AW.seq)) | ((with_reducible apply Then.n)) | ((with_reducible apply AW.regL)) | ((with_reducible apply AW.condT); exact rfl; (focus (rfl)))))
              ((with_reducible apply Step.kmMate); exact rfl; exact rfl; (focus (decide +kernel)); exact hq; exact hkr)
              (repeat (first | (with_reducible refine AWo.cons ?_) | ((with_reducible refine Step.id ?_); ((with_reducible apply Step.assign); exact rfl; exact rfl)) | (with_reducible refine AWo.nil ?_) | ((with_reducible apply AW.seq)) | ((with_reducible apply Then.n)) | ((with_reducible apply AW.regL))))
              (refine AW.ret ?_; (repeat (first | refine Then.r ?_ | refine InBlk.r ?_)))
              exact ⟨_, rfl, rfl, rfl⟩
            | false =>
              simp only at hL hc
              obtain ⟨n1, n2⟩ := unN_next (s := (up s'.1 k true, s'.2)) (by simp only; omega) hr
              simp only at n1 n2
              (repeat (first | (with_reducible refine AWo.cons ?_) | ((with_reducible refine Step.id ?_); first | ((with_reducible apply Step.gdT); exact rfl; exact rfl; (focus (rfl))) | ((with_reducible apply Step.move); exact rfl; exact rfl) | ((with_reducible apply Step.load); exact rfl; (focus (decide +kernel)); exact rfl; (focus (first | assumption | exact h4 _ | exact h5 _))) | ((with_reducible apply Step.ix1z); exact rfl; (focus (exact Sl.mk (by omega))); exact rfl; (focus (decide +kernel)); exact rfl; (focus (omega))) | ((with_reducible apply Step.lss); exact rfl; exact rfl; exact rfl)) | (with_reducible refine AWo.nil ?_) | ((with_reducible apply AW.seq)) | ((with_reducible apply Then.n)) | ((with_reducible apply AW.drawL fit); (focus (decide +kernel)))))
              ((with_reducible apply Step.call fit); exact rfl; exact rfl; exact Try.func97; exact rfl; exact rfl; exact hc)
              rintro _ _ ⟨rfl, rfl⟩
              (repeat (first | (with_reducible refine AWo.cons ?_) | ((with_reducible refine Step.id ?_); first | ((with_reducible apply Step.move); exact rfl; exact rfl) | ((with_reducible apply Step.add); exact rfl; exact rfl; (focus (omega)); exact rfl) | ((with_reducible apply Step.pickF); exact rfl; exact rfl; exact rfl; exact rfl; (focus (rfl)))) | (with_reducible refine AWo.nil ?_) | ((with_reducible apply Then.n)) | ((with_reducible apply AW.regL)) | ((with_reducible apply InBlk.n)) | ((with_reducible apply AW.skip)) | ((with_reducible apply AW.condF); exact rfl; (focus (rfl)))))
              exact ⟨_, _, by omega, (by repeat (first | exact trivial | (refine And.intro rfl ?_))), k + 1, s2, rfl, by omega, hL, by omega, by rw [n2]; exact hb, rfl, rfl⟩
    · obtain rfl : k = r := by omega
      rw [fromI_nil] at hL
      simp only [kL] at hL
      injection hL with e1 e2
      subst e1 e2
      (repeat (first | (with_reducible refine AWo.cons ?_) | ((with_reducible refine Step.id ?_); first | ((with_reducible apply Step.assign); exact rfl; exact rfl) | ((with_reducible apply Step.lss); exact rfl; exact rfl; exact rfl)) | (with_reducible refine AWo.nil ?_) | ((with_reducible apply AW.seq)) | ((with_reducible apply Then.n)) | ((with_reducible apply AW.regL)) | ((with_reducible apply AW.exit)) | ((with_reducible apply InBlk.hit)) | ((with_reducible apply Then.e)) | ((with_reducible apply AW.condF); exact rfl; (focus ((simp only [decide_eq_true_eq, decide_eq_false_iff_not, Bool.not_eq_true', Bool.not_eq_false', Bool.not_true, Bool.not_false]; first | assumption | omega))))))
      (refine AW.ret ?_; (repeat (first | refine Then.r ?_ | refine InBlk.r ?_)))
      exact ⟨_, rfl, rfl, rfl⟩
set_option maxRecDepth 100000 in
theorem size_ok {m : AM} {v : Value} {mt : Nat → Int} {n : Nat} (h : Ints m v (tab mt n)) (hn : n ≤ 100000) : ACall Try.prog 69 #[v] m (Ret (.int .i64 (cN (fun j => decide (0 ≤ mt j)) n : Nat)) m) := by
  obtain ⟨a, o, h1, h2, h3⟩ := id h
  rw [tab_len] at h1 h3
  refine ACall.start Try.func69 rfl rfl ?_
  (repeat (first | (with_reducible refine AWo.cons ?_) | ((with_reducible refine Step.id ?_); first | ((with_reducible apply Step.move); exact rfl; exact rfl) | ((with_reducible apply Step.assign); exact rfl; exact rfl) | ((with_reducible apply Step.len); exact rfl; (focus (assumption)); (focus (decide +kernel)); exact rfl)) | (with_reducible refine AWo.nil ?_) | ((with_reducible apply AW.seq)) | ((with_reducible apply Then.n)) | ((with_reducible apply AW.regL)) | ((with_reducible apply AW.block))))
  refine AW.loopT (fun rk t L => ∃ k : Nat, rk = n - k ∧ k ≤ n ∧ L = [] ∧ t = [(3, .int .i64 (cN (fun j => decide (0 ≤ mt j)) k : Nat)), (6, v), (7, .int .i64 (n : Nat)), (8, .int .i64 (k : Nat))]) ⟨_, _, _, (Or.inl ⟨rfl, (by repeat (first | exact trivial | (refine And.intro rfl ?_)))⟩), 0, rfl, Nat.zero_le _, rfl, rfl⟩ ?_
  rintro rk t L ⟨k, rfl, hk, rfl, rfl⟩
  have hc : cN (fun j => decide (0 ≤ mt j)) k ≤ k := cN_le _
  rcases Nat.lt_or_ge k n with hlt | hge
  · have r1 := h3 k hlt
    rw [tab_get mt hlt] at r1
    have e : cN (fun j => decide (0 ≤ mt j)) (k + 1) = cN (fun j => decide (0 ≤ mt j)) k + if decide (0 ≤ mt k) = true then 1 else 0 := rfl
    by_cases h0 : 0 ≤ mt k
    · rw [if_pos (by simpa using h0)] at e
      (repeat (first | (with_reducible refine AWo.cons ?_) | ((with_reducible refine Step.id ?_); first | ((with_reducible apply Step.move); exact rfl; exact rfl) | ((with_reducible apply Step.assign); exact rfl; exact rfl) | ((with_reducible apply Step.load); exact rfl; (focus (decide +kernel)); exact rfl; (focus (exact r1.old _))) | ((with_reducible apply Step.ix1); exact rfl; (focus (assumption)); exact rfl; (focus (decide +kernel)); exact rfl; (focus (omega))) | ((with_reducible apply Step.add); exact rfl; exact rfl; (focus (omega)); exact rfl) | ((with_reducible apply Step.lss); exact rfl; exact rfl; exact rfl) | ((with_reducible apply Step.geq); exact rfl; exact rfl; exact rfl)) | (with_reducible refine AWo.nil ?_) | ((with_reducible apply AW.seq)) | ((with_reducible apply Then.n)) | ((with_reducible apply AW.regL)) | ((with_reducible apply AW.block)) | ((with_reducible apply InBlk.n)) | ((with_reducible apply AW.skip)) | ((with_reducible apply AW.condT); exact rfl; (focus ((simp only [decide_eq_true_eq, decide_eq_false_iff_not, Bool.not_eq_true', Bool.not_eq_false', Bool.not_true, Bool.not_false]; first | assumption | omega))))))
      exact ⟨_, [(3, .int .i64 ((cN (fun j => decide (0 ≤ mt j)) k : Nat) + 1)), (6, v), (7, .int .i64 (n : Nat)), (8, .int .i64 ((k + 1 : Nat) : Int))], _, by omega, (Or.inl ⟨rfl, (by repeat (first | exact trivial | (refine And.intro rfl ?_)))⟩), k + 1, rfl, by omega, rfl, by rw [e, Int.natCast_add]; rfl⟩
    · rw [if_neg (by simpa using h0)] at e
      (repeat (first | (with_reducible refine AWo.cons ?_) | ((with_reducible refine Step.id ?_); first | ((with_reducible apply Step.move); exact rfl; exact rfl) | ((with_reducible apply Step.assign); exact rfl; exact rfl) | ((with_reducible apply Step.load); exact rfl; (focus (decide +kernel)); exact rfl; (focus (exact r1.old _))) | ((with_reducible apply Step.ix1); exact rfl; (focus (assumption)); exact rfl; (focus (decide +kernel)); exact rfl; (focus (omega))) | ((with_reducible apply Step.add); exact rfl; exact rfl; (focus (omega)); exact rfl) | ((with_reducible apply Step.lss); exact rfl; exact rfl; exact rfl) | ((with_reducible apply Step.geq); exact rfl; exact rfl; exact rfl)) | (with_reducible refine AWo.nil ?_) | ((with_reducible apply AW.seq)) | ((with_reducible apply Then.n)) | ((with_reducible apply AW.regL)) | ((with_reducible apply AW.block)) | ((with_reducible apply InBlk.n)) | ((with_reducible apply AW.skip)) | ((with_reducible apply AW.condT); exact rfl; (focus ((simp only [decide_eq_true_eq, decide_eq_false_iff_not, Bool.not_eq_true', Bool.not_eq_false', Bool.not_true, Bool.not_false]; first | assumption | omega)))) | ((with_reducible apply AW.condF); exact rfl; (focus ((simp only [decide_eq_true_eq, decide_eq_false_iff_not, Bool.not_eq_true', Bool.not_eq_false', Bool.not_true, Bool.not_false]; first | assumption | omega))))))
      exact ⟨_, [(3, .int .i64 (cN (fun j => decide (0 ≤ mt j)) k : Nat)), (6, v), (7, .int .i64 (n : Nat)), (8, .int .i64 ((k + 1 : Nat) : Int))], _, by omega, (Or.inl ⟨rfl, (by repeat (first | exact trivial | (refine And.intro rfl ?_)))⟩), k + 1, rfl, by omega, rfl, by rw [e]; rfl⟩
  · obtain rfl : k = n := by omega
    (repeat (first | (with_reducible refine AWo.cons ?_) | ((with_reducible refine Step.id ?_); first | ((with_reducible apply Step.move); exact rfl; exact rfl) | ((with_reducible apply Step.assign); exact rfl; exact rfl) | ((with_reducible apply Step.lss); exact rfl; exact rfl; exact rfl)) | (with_reducible refine AWo.nil ?_) | ((with_reducible apply AW.seq)) | ((with_reducible apply Then.n)) | ((with_reducible apply AW.regL)) | ((with_reducible apply AW.exit)) | ((with_reducible apply InBlk.hit)) | ((with_reducible apply Then.e)) | ((with_reducible apply AW.condF); exact rfl; (focus ((simp only [decide_eq_true_eq, decide_eq_false_iff_not, Bool.not_eq_true', Bool.not_eq_false', Bool.not_true, Bool.not_false]; first | assumption | omega))))))
    (refine AW.retD (l := [(2, _)]) (by repeat (first | exact trivial | (refine And.intro ⟨rfl, by (exact .int _ _)⟩ ?_))) ?_; (repeat (first | refine Then.r ?_ | refine InBlk.r ?_)))
    exact ⟨_, rfl, rfl, rfl⟩
set_option maxHeartbeats 4000000 in
set_option maxRecDepth 100000 in
theorem matched_ok {m : AM} {tv : Value} {c : Nat → Nat → Int} {l r : Nat} {mo : Int} (hT : Tab m tv c l r) (hl32 : l ≤ 32) (hr32 : r ≤ 32) :
    ACall Try.prog 70 #[tv, .int .i64 mo] m (More (fun M v => Ints M v (tab (kM (okc c mo) r l).1 r)) m) := by
  obtain ⟨a, cv, b, o, rfl, t1, t2, t3, t4, t5, t6, t7⟩ := id hT
  have wt : Low m.length (.pointer (some ⟨a, 0, none⟩)) := .ptr t1
  refine ACall.start Try.func70 rfl rfl ?_
  (repeat (first | (with_reducible refine AWo.cons ?_) | ((with_reducible refine Step.id ?_); first | ((with_reducible apply Step.move); exact rfl; exact rfl) | ((with_reducible apply Step.assign); exact rfl; exact rfl) | ((with_reducible apply Step.load); exact rfl; (focus (decide +kernel)); exact rfl; (focus (first | exact t4.old _ | exact Rd.new rfl rfl))) | ((with_reducible apply Step.field (k := 2)); exact rfl; (focus (decide +kernel)); exact rfl) | ((with_reducible apply Step.len); exact rfl; (focus (exact Sl.mk (by omega))); (focus (decide +kernel)); exact rfl) | ((with_reducible apply Step.nilp); exact rfl; exact rfl) | ((with_reducible apply Step.box 0); exact rfl; exact rfl; (focus (kernel_rfl)); exact rfl; (focus (first | (simp only [List.nil_append, List.cons_append, List.set_cons_zero, List.set_cons_succ, iv_set, bv_set, iv_rep, bv_rep]; done) | (simp only [List.nil_append, List.cons_append, List.set_cons_zero, List.set_cons_succ, iv_set, bv_set, iv_rep, bv_rep]; rfl) | rfl))) | ((with_reducible apply Step.box 1); exact rfl; exact rfl; (focus (kernel_rfl)); exact rfl; (focus (first | (simp only [List.nil_append, List.cons_append, List.set_cons_zero, List.set_cons_succ, iv_set, bv_set, iv_rep, bv_rep]; done) | (simp only [List.nil_append, List.cons_append, List.set_cons_zero, List.set_cons_succ, iv_set, bv_set, iv_rep, bv_rep]; rfl) | rfl))) | ((with_reducible apply Step.make1 2); exact rfl; exact rfl; exact rfl; exact el27; (focus (omega)); exact rfl; (focus (first | (simp only [List.nil_append, List.cons_append, List.set_cons_zero, List.set_cons_succ, iv_set, bv_set, iv_rep, bv_rep]; done) | (simp only [List.nil_append, List.cons_append, List.set_cons_zero, List.set_cons_succ, iv_set, bv_set, iv_rep, bv_rep]; rfl) | rfl))) | ((with_reducible apply Step.alloc 3); exact rfl; exact ze27; exact rfl; (focus (first | (simp only [List.nil_append, List.cons_append, List.set_cons_zero, List.set_cons_succ, iv_set, bv_set, iv_rep, bv_rep]; done) | (simp only [List.nil_append, List.cons_append, List.set_cons_zero, List.set_cons_succ, iv_set, bv_set, iv_rep, bv_rep]; rfl) | rfl))) | ((with_reducible apply Step.store (k := 3)); exact rfl; exact rfl; exact rfl; exact rfl; (focus (decide +kernel)); exact rfl; exact rfl; (focus (first | omega | (simp [iv, bv]; done) | (simp [iv, bv]; omega))); (focus (first | (simp only [List.nil_append, List.cons_append, List.set_cons_zero, List.set_cons_succ, iv_set, bv_set, iv_rep, bv_rep]; done) | (simp only [List.nil_append, List.cons_append, List.set_cons_zero, List.set_cons_succ, iv_set, bv_set, iv_rep, bv_rep]; rfl) | rfl)))) | (with_reducible refine AWo.nil ?_) | ((with_reducible apply AW.seq)) | ((with_reducible apply Then.n)) | ((with_reducible apply AW.regL)) | ((with_reducible apply AW.block))))
  refine AW.loopT (fun rk t L => ∃ k : Nat, rk = r - k ∧ k ≤ r ∧ L = [some { cells := [.pointer (some ⟨a, 0, none⟩)] }, some { cells := [.int .i64 mo] }, some { cells := iv (tab (fun x => if x < k then -1 else 0) r) }, some { cells := [.slice (some ⟨m.length + 2, 0, none⟩) r r] }] ∧
      t = [(2, .pointer (some ⟨m.length + 0, 0, none⟩)), (3, .pointer (some ⟨m.length + 1, 0, none⟩)), (5, .pointer (some ⟨m.length + 3, 0, none⟩)), (16, .int .i64 (r : Nat)), (17, .int .i64 (k : Nat))])
    ⟨_, _, [some { cells := [.pointer (some ⟨a, 0, none⟩)] }, some { cells := [.int .i64 mo] }, some { cells := iv (List.replicate r 0) }, some { cells := [.slice (some ⟨m.length + 2, 0, none⟩) r r] }], (Or.inl ⟨rfl, (by repeat (first | exact trivial | (refine And.intro rfl ?_)))⟩), 0, rfl, Nat.zero_le _, by simp only [tab_rep]; simp, rfl⟩ ?_
  rintro rk t L ⟨k, rfl, hk, rfl, rfl⟩
  rcases Nat.lt_or_ge k r with hkl | hkg
  · (repeat (first | (with_reducible refine AWo.cons ?_) | ((with_reducible refine Step.id ?_); first | ((with_reducible apply Step.move); exact rfl; exact rfl) | ((with_reducible apply Step.assign); exact rfl; exact rfl) | ((with_reducible apply Step.load); exact rfl; (focus (decide +kernel)); exact rfl; (focus (exact Rd.new rfl rfl))) | ((with_reducible apply Step.ix1z); exact rfl; (focus (exact Sl.mk (by omega))); exact rfl; (focus (decide +kernel)); exact rfl; (focus (omega))) | ((with_reducible apply Step.add); exact rfl; exact rfl; (focus (omega)); exact rfl) | ((with_reducible apply Step.lss); exact rfl; exact rfl; exact rfl) | ((with_reducible apply Step.store (k := 2)); exact rfl; exact rfl; exact rfl; exact rfl; (focus (decide +kernel)); exact rfl; exact rfl; (focus (first | omega | (simp [iv, bv]; done) | (simp [iv, bv]; omega))); (focus (first | (simp only [List.nil_append, List.cons_append, List.set_cons_zero, List.set_cons_succ, iv_set, bv_set, iv_rep, bv_rep]; done) | (simp only [List.nil_append, List.cons_append, List.set_cons_zero, List.set_cons_succ, iv_set, bv_set, iv_rep, bv_rep]; rfl) | rfl)))) | (with_reducible refine AWo.nil ?_) | ((with_reducible apply AW.seq)) | ((with_reducible apply Then.n)) | ((with_reducible apply AW.regL)) | ((with_reducible apply AW.block)) | ((with_reducible apply InBlk.n)) | ((with_reducible apply AW.skip)) | ((with_reducible apply AW.condT); exact rfl; (focus ((simp only [decide_eq_true_eq, decide_eq_false_iff_not, Bool.not_eq_true', Bool.not_eq_false', Bool.not_true, Bool.not_false]; first | assumption | omega))))))
    exact ⟨_, _, [some { cells := [.pointer (some ⟨a, 0, none⟩)] }, some { cells := [.int .i64 mo] }, some { cells := iv (tab (fun x => if x < k + 1 then -1 else 0) r) }, some { cells := [.slice (some ⟨m.length + 2, 0, none⟩) r r] }], by omega, by rw [tab_set, fill_step]; exact (Or.inl ⟨rfl, (by repeat (first | exact trivial | (refine And.intro rfl ?_)))⟩), k + 1, rfl, by omega, rfl, rfl⟩
  obtain rfl : k = r := by omega
  rw [fill_all]
  (repeat (first | (with_reducible refine AWo.cons ?_) | ((with_reducible refine Step.id ?_); first | ((with_reducible apply Step.move); exact rfl; exact rfl) | ((with_reducible apply Step.load); exact rfl; (focus (decide +kernel)); exact rfl; (focus (first | exact t3.old _ | exact Rd.new rfl rfl))) | ((with_reducible apply Step.field (k := 1)); exact rfl; (focus (decide +kernel)); exact rfl) | ((with_reducible apply Step.lss); exact rfl; exact rfl; exact rfl) | ((with_reducible apply Step.nilp); exact rfl; exact rfl) | ((with_reducible apply Step.fn); exact rfl; exact rfl; exact rfl) | ((with_reducible apply Step.alloc 4); exact rfl; exact ze27; exact rfl; (focus (first | (simp only [List.nil_append, List.cons_append, List.set_cons_zero, List.set_cons_succ, iv_set, bv_set, iv_rep, bv_rep]; done) | (simp only [List.nil_append, List.cons_append, List.set_cons_zero, List.set_cons_succ, iv_set, bv_set, iv_rep, bv_rep]; rfl) | rfl))) | ((with_reducible apply Step.alloc 5); exact rfl; exact ze112; exact rfl; (focus (first | (simp only [List.nil_append, List.cons_append, List.set_cons_zero, List.set_cons_succ, iv_set, bv_set, iv_rep, bv_rep]; done) | (simp only [List.nil_append, List.cons_append, List.set_cons_zero, List.set_cons_succ, iv_set, bv_set, iv_rep, bv_rep]; rfl) | rfl))) | ((with_reducible apply Step.store (k := 5)); exact rfl; exact rfl; exact rfl; exact rfl; (focus (decide +kernel)); exact rfl; exact rfl; (focus (first | omega | (simp [iv, bv]; done) | (simp [iv, bv]; omega))); (focus (first | (simp only [List.nil_append, List.cons_append, List.set_cons_zero, List.set_cons_succ, iv_set, bv_set, iv_rep, bv_rep]; done) | (simp only [List.nil_append, List.cons_append, List.set_cons_zero, List.set_cons_succ, iv_set, bv_set, iv_rep, bv_rep]; rfl) | rfl)))) | (with_reducible refine AWo.nil ?_) | ((with_reducible apply AW.seq)) | ((with_reducible apply Then.n)) | ((with_reducible apply AW.regL)) | ((with_reducible apply AW.block)) | ((with_reducible apply AW.exit)) | ((with_reducible apply InBlk.hit)) | ((with_reducible apply Then.e)) | ((with_reducible apply AW.condF); exact rfl; (focus ((simp only [decide_eq_true_eq, decide_eq_false_iff_not, Bool.not_eq_true', Bool.not_eq_false', Bool.not_true, Bool.not_false]; first | assumption | omega))))))
  refine AW.loopW (fun rk t M => ∃ (i : Nat) (N : AM) (v4 : Value), rk = l - i ∧ i ≤ l ∧ M = m ++ N ∧ (m ++ N)[m.length + 0]? = some (some { cells := [.pointer (some ⟨a, 0, none⟩)] }) ∧ (m ++ N)[m.length + 1]? = some (some { cells := [.int .i64 mo] }) ∧ (m ++ N)[m.length + 2]? = some (some { cells := iv (tab (kM (okc c mo) k i).1 k) }) ∧
      (m ++ N)[m.length + 3]? = some (some { cells := [.slice (some ⟨m.length + 2, 0, none⟩) k k] }) ∧ (m ++ N)[m.length + 4]? = some (some { cells := [v4] }) ∧
      (m ++ N)[m.length + 5]? = some (some { cells := [.func (.func 97) #[] #[.pointer (some ⟨m.length + 0, 0, none⟩), .pointer (some ⟨m.length + 1, 0, none⟩), .pointer (some ⟨m.length + 4, 0, none⟩), .pointer (some ⟨m.length + 3, 0, none⟩), .pointer (some ⟨m.length + 5, 0, none⟩)]] }) ∧
      t = fr [(2, .pointer (some ⟨m.length + 0, 0, none⟩)), (5, .pointer (some ⟨m.length + 3, 0, none⟩)), (7, .pointer (some ⟨m.length + 4, 0, none⟩)), (8, .pointer (some ⟨m.length + 5, 0, none⟩)), (28, .int .i64 (l : Nat)), (29, .int .i64 (i : Nat))])
    ⟨_, _, (by repeat (first | exact trivial | (refine And.intro rfl ?_))), 0, _, _, rfl, Nat.zero_le _, rfl, by rw [get_app]; rfl, by rw [get_app]; rfl, by rw [get_app]; rfl, by rw [get_app]; rfl, by rw [get_app]; rfl, by rw [get_app]; rfl, rfl⟩ ?_
  rintro rk t M ⟨i, N, v4, rfl, hi, rfl, n0, n1, n2, n3, n4, n5, rfl⟩
  have hinv := kM_inv (okc c mo) k i
  have hbd := kinv_bd hinv hi
  have hlen : m.length + 5 < (m ++ N).length := (List.getElem?_eq_some_iff.1 n5).1
  have rt : ∀ {N : AM} {o : Nat} {v : Value}, Rd m a o v → Rd (m ++ N) a o v := fun h => h.old _
  rcases Nat.lt_or_ge i l with hil | hig
  · (repeat (first | (with_reducible refine AWo.cons ?_) | ((with_reducible refine Step.id ?_); first | ((with_reducible apply Step.move); exact rfl; exact rfl) | ((with_reducible apply Step.assign); exact rfl; exact rfl) | ((with_reducible apply Step.load); exact rfl; (focus (decide +kernel)); exact rfl; (focus (first | exact rd_at n0 rfl | exact t4.old _))) | ((with_reducible apply Step.field (k := 2)); exact rfl; (focus (decide +kernel)); exact rfl) | ((with_reducible apply Step.lss); exact rfl; exact rfl; exact rfl) | ((with_reducible apply Step.nilp); exact rfl; exact rfl)) | (with_reducible refine AWo.nil ?_) | ((with_reducible apply AW.seq)) | ((with_reducible apply Then.n)) | ((with_reducible apply AW.regL)) | ((with_reducible apply AW.block)) | ((with_reducible apply AW.skip)) | ((with_reducible apply AW.condT); exact rfl; (focus ((simp only [decide_eq_true_eq, decide_eq_false_iff_not, Bool.not_eq_true', Bool.not_eq_false', Bool.not_true, Bool.not_false]; first | assumption | omega))))))
    ((with_reducible apply Step.makeG); exact rfl; exact rfl; exact el88; (focus (omega)); exact rfl)
    (repeat ((with_reducible refine AWo.cons ?_)))
    have n4' : ((m ++ N) ++ [some { cells := List.replicate k (.bool false) }])[m.length + 4]? = some (some { cells := [v4] }) := get_old _ n4
    obtain ⟨M2, hM2⟩ : ∃ M2, ((m ++ N) ++ [some ({ cells := List.replicate k (.bool false) } : Blk)]).set (m.length + 4) (some { cells := [.slice (some ⟨(m ++ N).length, 0, none⟩) k k] }) = M2 := ⟨_, rfl⟩
    ((with_reducible apply Step.storeV); exact rfl; exact rfl; exact n4'; (focus (decide +kernel)); exact rfl; exact rfl; exact hM2)
    have hpre : ∃ N2, M2 = m ++ N2 := by
      rw [← hM2, List.append_assoc]
      exact pre_set (by omega)
    have hl2 : M2.length = (m ++ N).length + 1 := by rw [← hM2]; simp; omega
    have hne : ∀ x, x ≠ m.length + 4 → x < (m ++ N).length → M2[x]? = (m ++ N)[x]? := fun x h1 h2 => by
      rw [← hM2, List.getElem?_set_ne (Ne.symm h1), List.getElem?_append_left h2]
    have k4 : M2[m.length + 4]? = some (some { cells := [.slice (some ⟨(m ++ N).length, 0, none⟩) k k] }) := by
      rw [← hM2, List.getElem?_set_self (by simp only [List.length_append] at hlen ⊢; omega)]
    have kp : M2[(m ++ N).length]? = some (some { cells := bv (tabB (fun _ => false) k) }) := by
      rw [← hM2, List.getElem?_set_ne (by omega), List.getElem?_append_right (Nat.le_refl _), Nat.sub_self, ← tabB_rep, ← bv_rep]; rfl
    have k0 := (hne (m.length + 0) (by omega) (by omega)).trans n0
    have k1 := (hne (m.length + 1) (by omega) (by omega)).trans n1
    have k2 := (hne (m.length + 2) (by omega) (by omega)).trans n2
    have k3 := (hne (m.length + 3) (by omega) (by omega)).trans n3
    have k5 := (hne (m.length + 5) (by omega) (by omega)).trans n5
    have hself := KM.self (r := k) (s := (fun _ => false, (kM (okc c mo) k i).1)) kp k2
    clear n0 n1 n2 n3 n4 n4' n5 hM2
    generalize hpp : (m ++ N).length = pp at *
    have hm : ∀ s, ∃ N', KM M2 pp (m.length + 2) k s = m ++ N' := fun s => by
      obtain ⟨N2, rfl⟩ := hpre
      exact KM.pre (by omega) (by omega)
    have hx : ∀ (s : KS) {x : Nat} {b : Blk}, x ≠ pp → x ≠ m.length + 2 → M2[x]? = some (some b) → (KM M2 pp (m.length + 2) k s)[x]? = some (some b) := fun s x b h1 h2 h => by rw [KM.ne h1 h2]; exact h
    have hc := find_ok (m0 := m) (m := M2) (p := pp) (q := m.length + 2) (a1 := m.length + 0) (a2 := m.length + 1) (a3 := m.length + 4) (a4 := m.length + 3) (a5 := m.length + 5) (mo := mo) (by omega) (by omega) (by omega) hl32 hr32 hm hT
      (fun s => rd_at (hx s (by omega) (by omega) k0) rfl) (fun s => rd_at (hx s (by omega) (by omega) k1) rfl) (fun s => rd_at (hx s (by omega) (by omega) k4) rfl) (fun s => rd_at (hx s (by omega) (by omega) k3) rfl) (fun s => rd_at (hx s (by omega) (by omega) k5) rfl)
      (k + 1) i (fun _ => false, (kM (okc c mo) k i).1) hil (by have : unN (fun _ => false) k ≤ k := cN_le _; simp only; omega) hbd
    rw [hself] at hc
    have e1 : (kM (okc c mo) k (i + 1)).1 = (kF (okc c mo) k (k + 1) i (fun _ => false, (kM (okc c mo) k i).1)).2.2 := rfl
    generalize kF (okc c mo) k (k + 1) i (fun _ => false, (kM (okc c mo) k i).1) = res at *
    obtain ⟨b', s2⟩ := res
    simp only at hc e1
    (repeat (first | (with_reducible refine AWo.cons ?_) | ((with_reducible refine Step.id ?_); first | ((with_reducible apply Step.move); exact rfl; exact rfl) | ((with_reducible apply Step.load); exact rfl; (focus (decide +kernel)); exact rfl; (focus (exact rd_at k5 rfl)))) | (with_reducible refine AWo.nil ?_) | ((with_reducible apply Then.n)) | ((with_reducible apply AW.regL))))
    ((with_reducible apply Step.call fit); exact rfl; exact rfl; exact Try.func97; exact rfl; exact rfl; exact hc)
    rintro _ _ ⟨rfl, rfl⟩
    (repeat (first | (with_reducible refine AWo.cons ?_) | ((with_reducible refine Step.id ?_); first | ((with_reducible apply Step.move); exact rfl; exact rfl) | ((with_reducible apply Step.add); exact rfl; exact rfl; (focus (omega)); exact rfl)) | (with_reducible refine AWo.nil ?_) | ((with_reducible apply Then.n)) | ((with_reducible apply AW.regL)) | ((with_reducible apply InBlk.n))))
    obtain ⟨N', hN'⟩ := hm s2
    refine ⟨_, _, ?_, (by repeat (first | exact trivial | (refine And.intro rfl ?_))), i + 1, N', .slice (some ⟨pp, 0, none⟩) k k, rfl, by omega, hN', ?_, ?_, ?_, ?_, ?_, ?_, rfl⟩
    · omega
    · rw [← hN']; exact hx s2 (by omega) (by omega) k0
    · rw [← hN']; exact hx s2 (by omega) (by omega) k1
    · rw [← hN', e1]; exact KM.getq (by omega)
    · rw [← hN']; exact hx s2 (by omega) (by omega) k3
    · rw [← hN']; exact hx s2 (by omega) (by omega) k4
    · rw [← hN']; exact hx s2 (by omega) (by omega) k5
  · obtain rfl : i = l := by omega
    (repeat (first | (with_reducible refine AWo.cons ?_) | ((with_reducible refine Step.id ?_); first | ((with_reducible apply Step.assign); exact rfl; exact rfl) | ((with_reducible apply Step.load); exact rfl; (focus (decide +kernel)); exact rfl; (focus (exact rd_at n3 rfl))) | ((with_reducible apply Step.lss); exact rfl; exact rfl; exact rfl)) | (with_reducible refine AWo.nil ?_) | ((with_reducible apply AW.seq)) | ((with_reducible apply Then.n)) | ((with_reducible apply AW.regL)) | ((with_reducible apply AW.exit)) | ((with_reducible apply InBlk.hit)) | ((with_reducible apply Then.e)) | ((with_reducible apply AW.condF); exact rfl; (focus ((simp only [decide_eq_true_eq, decide_eq_false_iff_not, Bool.not_eq_true', Bool.not_eq_false', Bool.not_true, Bool.not_false]; first | assumption | omega))))))
    (refine AW.ret ?_; (repeat (first | refine Then.r ?_ | refine InBlk.r ?_)))
    exact ⟨_, rfl, _, rfl, ints_at n2 rfl _ (by simp)⟩
end Go.Proofs.Ytajpngnphbdnnaa.Abs
namespace Go.Proofs.Ytajpngnphbdnnaa.Abs
set_option linter.unusedSimpArgs false
set_option linter.unusedVariables false
open Go.RowKit
open Go.Proofs.Ytajpngnphbdnnaa.Sim
open Go.Proofs
open Hung
/-- The greatest size of a pairing. -/
def mst (u : Ru) (L R : List Gl) : Nat := (kM (okc (cT u L R) 1000000000) R.length L.length).2
set_option maxHeartbeats 4000000 in
set_option maxRecDepth 100000 in
theorem Most_ok {m : AM} {lv rv : Value} {u : Ru} {L R : List Gl} (hl : Gls m lv L) (hr : Gls m rv R) (hL : sB L = true) (hR : sB R = true) (hu : uB u = true) : ACall Try.prog 32 #[lv, rv, u.v] m (Ret (.tuple #[.int .i64 (mst u L R : Nat), .int .i64 0]) m) := by
  have h1 : L.length ≤ 32 ∧ L.all gB = true := by simpa [sB] using hL
  have h2 : R.length ≤ 32 ∧ R.all gB = true := by simpa [sB] using hR
  have r0 : ∀ T : AM, RdL (m ++ (some { cells := u.cells } :: T)) (m.length + 0) 0 u.cells := fun T => RdL.new rfl rfl
  have hcnt := (kM_inv (okc (cT u L R) 1000000000) R.length L.length).cnt
  refine ACall.drop (Ren.tupG [.int .i64 _, .int .i64 0] rfl) ?_
  refine ACall.start Try.func32 rfl rfl ?_
  (repeat (first | (with_reducible refine AWo.cons ?_) | ((with_reducible refine Step.id ?_); first | ((with_reducible apply Step.move); exact rfl; exact rfl) | ((with_reducible apply Step.assign); exact rfl; exact rfl) | ((with_reducible apply Step.loadL (n := 8)); exact rfl; (focus (decide +kernel)); (focus (decide +kernel)); exact rfl; (focus (exact RdL.new rfl rfl)); exact rfl; exact rfl) | ((with_reducible apply Step.box 0); exact rfl; exact rfl; (focus (kernel_rfl)); exact rfl; (focus (first | (simp only [List.nil_append, List.cons_append, List.set_cons_zero, List.set_cons_succ, iv_set, bv_set, iv_rep, bv_rep]; done) | (simp only [List.nil_append, List.cons_append, List.set_cons_zero, List.set_cons_succ, iv_set, bv_set, iv_rep, bv_rep]; rfl) | rfl)))) | (with_reducible refine AWo.nil ?_) | ((with_reducible apply AW.seq)) | ((with_reducible apply Then.n)) | ((with_reducible apply AW.regL))))
  ((with_reducible apply Step.callX fit); exact rfl; exact Try.func54; exact rfl; exact rfl; exact (costs_ok (hl.old _) (hr.old _) hL hR hu))
  rintro tv M ⟨N0, hN0⟩ hT
  obtain ⟨a, cv, b, o, htv, _⟩ := id hT
  subst htv
  (repeat (first | (with_reducible refine AWo.cons ?_) | ((with_reducible refine Step.id ?_); first | ((with_reducible apply Step.move); exact rfl; exact rfl) | ((with_reducible apply Step.assign); exact rfl; exact rfl) | ((with_reducible apply Step.ptrNot); exact rfl; exact rfl; exact un77; exact rfl)) | (with_reducible refine AWo.nil ?_) | ((with_reducible apply AW.seq)) | ((with_reducible apply Then.n)) | ((with_reducible apply AW.regL)) | ((with_reducible apply AW.skip)) | ((with_reducible apply AW.condF); exact rfl; (focus (rfl)))))
  ((with_reducible apply Step.callX fit); exact rfl; exact Try.func70; exact rfl; exact rfl; exact (matched_ok (hT.old _) (by omega) (by omega)))
  rintro v M1 ⟨N1, hN1⟩ hI
  (repeat (first | (with_reducible refine AWo.cons ?_) | ((with_reducible refine Step.id ?_); first | ((with_reducible apply Step.assign); exact rfl; exact rfl) | ((with_reducible apply Step.callR fit); exact rfl; exact Try.func69; exact rfl; exact rfl; exact (size_ok (hI.old _) (by omega)))) | (with_reducible refine AWo.nil ?_) | ((with_reducible apply Then.n))))
  (refine AW.ret ?_; (repeat (first | refine Then.r ?_ | refine InBlk.r ?_)))
  refine ⟨_, rfl, ?_, [some { cells := u.v.cells.toList }] ++ (N0 ++ N1), ?_⟩
  · unfold mst; rw [← hcnt]
  · rw [hN1, hN0]; simp only [List.append_nil, List.append_assoc]
end Go.Proofs.Ytajpngnphbdnnaa.Abs
namespace Go.Proofs.Ytajpngnphbdnnaa.Hung
set_option linter.unusedSimpArgs false
set_option linter.unusedVariables false
theorem cN_split (p q : Nat → Bool) : ∀ n, cN p n = cN (fun j => p j && q j) n + cN (fun j => p j && !q j) n
  | 0 => rfl
  | n + 1 => by
    have h := cN_split p q n
    have e : ∀ a b : Bool, (if a = true then 1 else 0 : Nat) = (if (a && b) = true then 1 else 0) + (if (a && !b) = true then 1 else 0) := by decide
    have := e (p n) (q n)
    simp only [cN]; omega
abbrev RS := (Nat → Bool) × (Nat → Bool)
end Go.Proofs.Ytajpngnphbdnnaa.Hung
namespace Go.Proofs.Ytajpngnphbdnnaa.Abs
set_option linter.unusedSimpArgs false
set_option linter.unusedVariables false
open Go.RowKit
open Go.Proofs.Ytajpngnphbdnnaa.Sim
open Go.Proofs
open Hung
/-- The memory in which blocks p and q hold which gloves are reached. -/
def RM (m : AM) (p q l r : Nat) (s : RS) : AM := (m.set p (some { cells := bv (tabB s.1 l) })).set q (some { cells := bv (tabB s.2 r) })
section
variable {m : AM} {p q l r : Nat} {s : RS}
theorem RM.len : (RM m p q l r s).length = m.length := by simp [RM]
theorem RM.getp (hp : p < m.length) (hpq : p ≠ q) : (RM m p q l r s)[p]? = some (some { cells := bv (tabB s.1 l) }) := by
  unfold RM; rw [List.getElem?_set_ne (Ne.symm hpq)]; simp [hp]
theorem RM.getq (hq : q < m.length) : (RM m p q l r s)[q]? = some (some { cells := bv (tabB s.2 r) }) := by
  unfold RM; simp [hq]
theorem RM.seen {j : Nat} {b : Bool} (hq : q < m.length) (hj : j < r) (hb : s.2 j = b) : Rd (RM m p q l r s) q j (.bool b) :=
  ⟨_, RM.getq hq, by subst hb; have := bv_get (l := tabB s.2 r) (k := j) (by simpa using hj); rwa [tabB_get s.2 hj] at this⟩
theorem RM.set1 {j : Nat} (hpq : p ≠ q) : (RM m p q l r s).set p (some { cells := (bv (tabB s.1 l)).set j (.bool true) }) = RM m p q l r (up s.1 j true, s.2) := by
  unfold RM
  rw [List.set_comm _ _ hpq, bv_set, tabB_set, List.set_set, List.set_comm _ _ hpq]
theorem RM.set2 {j : Nat} : (RM m p q l r s).set q (some { cells := (bv (tabB s.2 r)).set j (.bool true) }) = RM m p q l r (s.1, up s.2 j true) := by
  unfold RM
  rw [bv_set, tabB_set, List.set_set]
theorem RM.self (h1 : m[p]? = some (some { cells := bv (tabB s.1 l) })) (h2 : m[q]? = some (some { cells := bv (tabB s.2 r) })) : RM m p q l r s = m := by
  have e : ∀ {a : Nat} {x : Option Blk}, m[a]? = some x → m.set a x = m := fun {a x} h => by
    apply List.ext_getElem?
    intro i
    by_cases e : i = a
    · subst e; rw [List.getElem?_set_self (List.getElem?_eq_some_iff.1 h).1, h]
    · rw [List.getElem?_set_ne (Ne.symm e)]
  unfold RM
  rw [e h1, e h2]
theorem RM.ne {a : Nat} (h1 : a ≠ p) (h2 : a ≠ q) : (RM m p q l r s)[a]? = m[a]? := by
  unfold RM
  rw [List.getElem?_set_ne (Ne.symm h2), List.getElem?_set_ne (Ne.symm h1)]
theorem RM.pre {N : AM} (h1 : m.length ≤ p) (h2 : m.length ≤ q) : ∃ N', RM (m ++ N) p q l r s = m ++ N' := by
  unfold RM
  obtain ⟨N1, e1⟩ := pre_set (m := m) (N := N) (p := p) (x := some { cells := bv (tabB s.1 l) }) h1
  rw [e1]
  exact pre_set h2
end
section
variable {P : Program} {nt : Nat} {ops : Array Oper} {t : Fm} {m : AM} {K : Fm → AM → Prop} {T : Nat} {pp : String} {af : Array Edge}
end
end Go.Proofs.Ytajpngnphbdnnaa.Abs
namespace Go.Proofs.Ytajpngnphbdnnaa.Abs
set_option linter.unusedSimpArgs false
set_option linter.unusedVariables false
open Go.RowKit
open Go.Proofs.Ytajpngnphbdnnaa.Sim
open Go.Proofs
open Hung
set_option maxRecDepth 100000 in
theorem index_ok {m : AM} {v : Value} {l : List Int} {x : Int} (h : Ints m v l) (hn : l.length ≤ 100000) : ACall Try.prog 77 #[v, .int .i64 x] m (Ret (.int .i64 (idxF (fun k => decide (l.getD k 0 = x)) l.length)) m) := by
  obtain ⟨a, o, h1, h2, h3⟩ := id h
  refine ACall.start Try.func77 rfl rfl ?_
  (repeat (first | (with_reducible refine AWo.cons ?_) | ((with_reducible refine Step.id ?_); first | ((with_reducible apply Step.move); exact rfl; exact rfl) | ((with_reducible apply Step.assign); exact rfl; exact rfl) | ((with_reducible apply Step.len); exact rfl; (focus (assumption)); (focus (decide +kernel)); exact rfl)) | (with_reducible refine AWo.nil ?_) | ((with_reducible apply AW.seq)) | ((with_reducible apply Then.n)) | ((with_reducible apply AW.regL)) | ((with_reducible apply AW.block))))
  refine AW.loopT (fun rk t L => ∃ k : Nat, rk = l.length - k ∧ k ≤ l.length ∧ (∀ i, i < k → decide (l.getD i 0 = x) = false) ∧ L = [] ∧ t = [(0, v), (1, .int .i64 x), (7, .int .i64 (l.length : Nat)), (8, .int .i64 (k : Nat))]) ⟨_, _, _, (Or.inl ⟨rfl, (by repeat (first | exact trivial | (refine And.intro rfl ?_)))⟩), 0, rfl, Nat.zero_le _, fun _ h => by omega, rfl, rfl⟩ ?_
  rintro rk t L ⟨k, rfl, hk, hz, rfl, rfl⟩
  rcases Nat.lt_or_ge k l.length with hlt | hge
  · have r1 := h3 k hlt
    by_cases he : x = l.getD k 0
    · (repeat (first | (with_reducible refine AWo.cons ?_) | ((with_reducible refine Step.id ?_); first | ((with_reducible apply Step.move); exact rfl; exact rfl) | ((with_reducible apply Step.assign); exact rfl; exact rfl) | ((with_reducible apply Step.load); exact rfl; (focus (decide +kernel)); exact rfl; (focus (exact r1.old _))) | ((with_reducible apply Step.ix1); exact rfl; (focus (assumption)); exact rfl; (focus (decide +kernel)); exact rfl; (focus (omega))) | ((with_reducible apply Step.lss); exact rfl; exact rfl; exact rfl) | ((with_reducible apply Step.eql); exact rfl; exact rfl; exact rfl)) | (with_reducible refine AWo.nil ?_) | ((with_reducible apply AW.seq)) | ((with_reducible apply Then.n)) | ((with_reducible apply AW.regL)) | ((with_reducible apply AW.block)) | ((with_reducible apply AW.skip)) | ((with_reducible apply AW.condT); exact rfl; (focus ((simp only [decide_eq_true_eq, decide_eq_false_iff_not, Bool.not_eq_true', Bool.not_eq_false', Bool.not_true, Bool.not_false]; first | assumption | omega))))))
      (refine AW.retD (l := [(4, _)]) (by repeat (first | exact trivial | (refine And.intro ⟨rfl, by (exact .int _ _)⟩ ?_))) ?_; (repeat (first | refine Then.r ?_ | refine InBlk.r ?_)))
      exact ⟨_, rfl, by rw [idxF_hit hlt hz (by rw [he]; simp)], rfl⟩
    · (repeat (first | (with_reducible refine AWo.cons ?_) | ((with_reducible refine Step.id ?_); first | ((with_reducible apply Step.move); exact rfl; exact rfl) | ((with_reducible apply Step.assign); exact rfl; exact rfl) | ((with_reducible apply Step.load); exact rfl; (focus (decide +kernel)); exact rfl; (focus (exact r1.old _))) | ((with_reducible apply Step.ix1); exact rfl; (focus (assumption)); exact rfl; (focus (decide +kernel)); exact rfl; (focus (omega))) | ((with_reducible apply Step.add); exact rfl; exact rfl; (focus (omega)); exact rfl) | ((with_reducible apply Step.lss); exact rfl; exact rfl; exact rfl) | ((with_reducible apply Step.eql); exact rfl; exact rfl; exact rfl)) | (with_reducible refine AWo.nil ?_) | ((with_reducible apply AW.seq)) | ((with_reducible apply Then.n)) | ((with_reducible apply AW.regL)) | ((with_reducible apply AW.block)) | ((with_reducible apply InBlk.n)) | ((with_reducible apply AW.skip)) | ((with_reducible apply AW.condT); exact rfl; (focus ((simp only [decide_eq_true_eq, decide_eq_false_iff_not, Bool.not_eq_true', Bool.not_eq_false', Bool.not_true, Bool.not_false]; first | assumption | omega)))) | ((with_reducible apply AW.condF); exact rfl; (focus ((simp only [decide_eq_true_eq, decide_eq_false_iff_not, Bool.not_eq_true', Bool.not_eq_false', Bool.not_true, Bool.not_false]; first | assumption | omega))))))
      refine ⟨_, _, _, by omega, (Or.inl ⟨rfl, (by repeat (first | exact trivial | (refine And.intro rfl ?_)))⟩), k + 1, rfl, by omega, fun i hi => ?_, rfl, rfl⟩
      by_cases e : i = k
      · subst e; exact decide_eq_false fun h => he h.symm
      · exact hz i (by omega)
  · obtain rfl : k = l.length := by omega
    (repeat (first | (with_reducible refine AWo.cons ?_) | ((with_reducible refine Step.id ?_); first | ((with_reducible apply Step.assign); exact rfl; exact rfl) | ((with_reducible apply Step.lss); exact rfl; exact rfl; exact rfl)) | (with_reducible refine AWo.nil ?_) | ((with_reducible apply AW.seq)) | ((with_reducible apply Then.n)) | ((with_reducible apply AW.regL)) | ((with_reducible apply AW.exit)) | ((with_reducible apply InBlk.hit)) | ((with_reducible apply Then.e)) | ((with_reducible apply AW.condF); exact rfl; (focus ((simp only [decide_eq_true_eq, decide_eq_false_iff_not, Bool.not_eq_true', Bool.not_eq_false', Bool.not_true, Bool.not_false]; first | assumption | omega))))))
    (refine AW.retD (l := [(4, _)]) (by repeat (first | exact trivial | (refine And.intro ⟨rfl, by (exact .int _ _)⟩ ?_))) ?_; (repeat (first | refine Then.r ?_ | refine InBlk.r ?_)))
    exact ⟨_, rfl, by rw [idxF_miss hz], rfl⟩
/-- The numbers below n of which g says yes. -/
def selL (g : Nat → Bool) (n : Nat) : List Int := nats ((List.range n).filter g)
theorem selL_no {g : Nat → Bool} {n : Nat} (h : g n = false) : selL g (n + 1) = selL g n := by
  unfold selL nats; rw [List.range_succ, List.filter_append]; simp [h]
/-- Blocks that lie somewhere, apart from each other. -/
structure Mz (n : Nat) (B : AM) (A : Nat → Bool) (ct : Nat → List Value) (p : Nat → Nat) (m : AM) : Prop where
  pre : ∃ N, m = B ++ N
  ar : ∀ k, k < n → A k = true → B.length ≤ p k ∧ m[p k]? = some (some { cells := ct k })
  dj : ∀ j k, j < n → k < n → A j = true → A k = true → p j = p k → j = k
section
variable {n : Nat} {B : AM} {A A' : Nat → Bool} {ct ct' : Nat → List Value} {p p' : Nat → Nat} {m : AM}
theorem Mz.congr (h : Mz n B A ct p m) (hA : ∀ k, k < n → A' k = A k) (hc : ∀ k, k < n → A k = true → ct' k = ct k) : Mz n B A' ct' p m :=
  ⟨h.pre, fun k hk ha => by rw [hA k hk] at ha; rw [hc k hk ha]; exact h.ar k hk ha, fun j k hj hk h1 h2 => h.dj j k hj hk (by rw [← hA j hj]; exact h1) (by rw [← hA k hk]; exact h2)⟩
theorem Mz.new (h : Mz n B A ct p m) {k : Nat} (z : List Value) (ha : A k = false) : Mz n B (upL A k) (up ct k z) (up p k m.length) (m ++ [some { cells := z }]) := by
  have hlt : ∀ j, j < n → A j = true → p j < m.length := fun j hj h1 => (List.getElem?_eq_some_iff.1 (h.ar j hj h1).2).1
  obtain ⟨N, hN⟩ := h.pre
  refine ⟨⟨N ++ [some { cells := z }], by rw [hN, List.append_assoc]⟩, fun j hj haj => ?_, fun i j hi hj hai haj e => ?_⟩
  · by_cases e : j = k
    · subst e
      rw [up_same, up_same]
      exact ⟨by rw [hN]; simp, by simp⟩
    · rw [upL_ne A e] at haj
      rw [up_ne _ _ e, up_ne _ _ e]
      exact ⟨(h.ar j hj haj).1, get_old _ (h.ar j hj haj).2⟩
  · by_cases e1 : i = k
    · by_cases e2 : j = k
      · rw [e1, e2]
      · rw [upL_ne A e2] at haj
        rw [e1, up_same, up_ne _ _ e2] at e
        have := hlt j hj haj; omega
    · rw [upL_ne A e1] at hai
      by_cases e2 : j = k
      · rw [e2, up_same, up_ne _ _ e1] at e
        have := hlt i hi hai; omega
      · rw [upL_ne A e2] at haj
        rw [up_ne _ _ e1, up_ne _ _ e2] at e
        exact h.dj i j hi hj hai haj e
theorem Mz.store (h : Mz n B A ct p m) {k : Nat} (c : List Value) (hk : k < n) (ha : A k = true) : Mz n B A (up ct k c) p (m.set (p k) (some { cells := c })) := by
  have hlt := (List.getElem?_eq_some_iff.1 (h.ar k hk ha).2).1
  have hge := (h.ar k hk ha).1
  obtain ⟨N, hN⟩ := h.pre
  refine ⟨⟨N.set (p k - B.length) (some { cells := c }), by rw [hN, List.set_append_right _ _ hge]⟩, fun j hj haj => ⟨(h.ar j hj haj).1, ?_⟩, h.dj⟩
  by_cases e : j = k
  · subst e
    rw [up_same, List.getElem?_set_self hlt]
  · rw [up_ne _ _ e, List.getElem?_set_ne fun q => e (h.dj j k hj hk haj ha q.symm)]
    exact (h.ar j hj haj).2
end
end Go.Proofs.Ytajpngnphbdnnaa.Abs
namespace Go.Proofs.Ytajpngnphbdnnaa.Abs
set_option linter.unusedSimpArgs false
set_option linter.unusedVariables false
open Go.RowKit
open Go.Proofs.Ytajpngnphbdnnaa.Sim
open Go.Proofs
open Hung
/-- A glove prefers a partner to another one: cost and index of both; below 0: none. -/
def prf (a j b k : Int) : Bool := decide (0 ≤ a) && (decide (k < 0) || (decide (b < 0) || (decide (a < b) || (decide (a = b) && decide (j < k)))))
set_option maxRecDepth 100000 in
theorem prefers_ok {m : AM} {a j b k : Int} : ACall Try.prog 71 #[.int .i64 a, .int .i64 j, .int .i64 b, .int .i64 k] m (Ret (.bool (prf a j b k)) m) := by
  refine ACall.start Try.func71 rfl rfl ?_
  by_cases h1 : a < 0
  · (repeat (first | (with_reducible refine AWo.cons ?_) | ((with_reducible refine Step.id ?_); first | ((with_reducible apply Step.move); exact rfl; exact rfl) | ((with_reducible apply Step.assign); exact rfl; exact rfl) | ((with_reducible apply Step.lss); exact rfl; exact rfl; exact rfl)) | (with_reducible refine AWo.nil ?_) | ((with_reducible apply AW.seq)) | ((with_reducible apply Then.n)) | ((with_reducible apply AW.regL)) | ((with_reducible apply AW.condT); exact rfl; (focus ((simp only [decide_eq_true_eq, decide_eq_false_iff_not, Bool.not_eq_true', Bool.not_eq_false', Bool.not_true, Bool.not_false]; first | assumption | omega))))))
    (refine AW.retD (l := [(8, _)]) (by repeat (first | exact trivial | (refine And.intro ⟨rfl, by (exact .bool _)⟩ ?_))) ?_; (repeat (first | refine Then.r ?_ | refine InBlk.r ?_)))
    exact ⟨_, rfl, by simp [prf]; omega, rfl⟩
  by_cases h2 : k < 0
  · (repeat (first | (with_reducible refine AWo.cons ?_) | ((with_reducible refine Step.id ?_); first | ((with_reducible apply Step.gdU); exact rfl; exact rfl) | ((with_reducible apply Step.gdF); exact rfl; exact rfl; (focus (first | rfl | (simp only [decide_eq_true_eq, decide_eq_false_iff_not, Bool.not_eq_true', Bool.not_eq_false', Bool.not_true, Bool.not_false]; first | assumption | omega)))) | ((with_reducible apply Step.move); exact rfl; exact rfl) | ((with_reducible apply Step.assign); exact rfl; exact rfl) | ((with_reducible apply Step.lss); exact rfl; exact rfl; exact rfl) | ((with_reducible apply Step.pickT); exact rfl; exact rfl; exact rfl; exact rfl; (focus (first | rfl | (simp only [decide_eq_true_eq, decide_eq_false_iff_not, Bool.not_eq_true', Bool.not_eq_false', Bool.not_true, Bool.not_false]; first | assumption | omega))))) | (with_reducible refine AWo.nil ?_) | ((with_reducible apply AW.seq)) | ((with_reducible apply Then.n)) | ((with_reducible apply AW.regL)) | ((with_reducible apply AW.skip)) | ((with_reducible apply AW.condF); exact rfl; (focus ((simp only [decide_eq_true_eq, decide_eq_false_iff_not, Bool.not_eq_true', Bool.not_eq_false', Bool.not_true, Bool.not_false]; first | assumption | omega))))))
    (refine AW.retD (l := [(8, _)]) (by repeat (first | exact trivial | (refine And.intro ⟨rfl, by (exact .bool _)⟩ ?_))) ?_; (repeat (first | refine Then.r ?_ | refine InBlk.r ?_)))
    exact ⟨_, rfl, by simp [prf]; omega, rfl⟩
  by_cases h3 : b < 0
  · (repeat (first | (with_reducible refine AWo.cons ?_) | ((with_reducible refine Step.id ?_); first | ((with_reducible apply Step.gdU); exact rfl; exact rfl) | ((with_reducible apply Step.gdT); exact rfl; exact rfl; (focus ((simp only [decide_eq_true_eq, decide_eq_false_iff_not, Bool.not_eq_true', Bool.not_eq_false', Bool.not_true, Bool.not_false]; first | assumption | omega)))) | ((with_reducible apply Step.gdF); exact rfl; exact rfl; (focus (first | rfl | (simp only [decide_eq_true_eq, decide_eq_false_iff_not, Bool.not_eq_true', Bool.not_eq_false', Bool.not_true, Bool.not_false]; first | assumption | omega)))) | ((with_reducible apply Step.move); exact rfl; exact rfl) | ((with_reducible apply Step.assign); exact rfl; exact rfl) | ((with_reducible apply Step.lss); exact rfl; exact rfl; exact rfl) | ((with_reducible apply Step.pickT); exact rfl; exact rfl; exact rfl; exact rfl; (focus (first | rfl | (simp only [decide_eq_true_eq, decide_eq_false_iff_not, Bool.not_eq_true', Bool.not_eq_false', Bool.not_true, Bool.not_false]; first | assumption | omega)))) | ((with_reducible apply Step.pickF); exact rfl; exact rfl; exact rfl; exact rfl; (focus ((simp only [decide_eq_true_eq, decide_eq_false_iff_not, Bool.not_eq_true', Bool.not_eq_false', Bool.not_true, Bool.not_false]; first | assumption | omega))))) | (with_reducible refine AWo.nil ?_) | ((with_reducible apply AW.seq)) | ((with_reducible apply Then.n)) | ((with_reducible apply AW.regL)) | ((with_reducible apply AW.skip)) | ((with_reducible apply AW.condF); exact rfl; (focus ((simp only [decide_eq_true_eq, decide_eq_false_iff_not, Bool.not_eq_true', Bool.not_eq_false', Bool.not_true, Bool.not_false]; first | assumption | omega))))))
    (refine AW.retD (l := [(8, _)]) (by repeat (first | exact trivial | (refine And.intro ⟨rfl, by (exact .bool _)⟩ ?_))) ?_; (repeat (first | refine Then.r ?_ | refine InBlk.r ?_)))
    exact ⟨_, rfl, by simp [prf]; omega, rfl⟩
  by_cases h4 : a < b
  · (repeat (first | (with_reducible refine AWo.cons ?_) | ((with_reducible refine Step.id ?_); first | ((with_reducible apply Step.gdU); exact rfl; exact rfl) | ((with_reducible apply Step.gdT); exact rfl; exact rfl; (focus ((simp only [decide_eq_true_eq, decide_eq_false_iff_not, Bool.not_eq_true', Bool.not_eq_false', Bool.not_true, Bool.not_false]; first | assumption | omega)))) | ((with_reducible apply Step.gdF); exact rfl; exact rfl; (focus ((simp only [decide_eq_true_eq, decide_eq_false_iff_not, Bool.not_eq_true', Bool.not_eq_false', Bool.not_true, Bool.not_false]; first | assumption | omega)))) | ((with_reducible apply Step.move); exact rfl; exact rfl) | ((with_reducible apply Step.assign); exact rfl; exact rfl) | ((with_reducible apply Step.lss); exact rfl; exact rfl; exact rfl) | ((with_reducible apply Step.pickT); exact rfl; exact rfl; exact rfl; exact rfl; (focus ((simp only [decide_eq_true_eq, decide_eq_false_iff_not, Bool.not_eq_true', Bool.not_eq_false', Bool.not_true, Bool.not_false]; first | assumption | omega)))) | ((with_reducible apply Step.pickF); exact rfl; exact rfl; exact rfl; exact rfl; (focus ((simp only [decide_eq_true_eq, decide_eq_false_iff_not, Bool.not_eq_true', Bool.not_eq_false', Bool.not_true, Bool.not_false]; first | assumption | omega))))) | (with_reducible refine AWo.nil ?_) | ((with_reducible apply AW.seq)) | ((with_reducible apply Then.n)) | ((with_reducible apply AW.regL)) | ((with_reducible apply AW.skip)) | ((with_reducible apply AW.condF); exact rfl; (focus ((simp only [decide_eq_true_eq, decide_eq_false_iff_not, Bool.not_eq_true', Bool.not_eq_false', Bool.not_true, Bool.not_false]; first | assumption | omega))))))
    (refine AW.retD (l := [(8, _)]) (by repeat (first | exact trivial | (refine And.intro ⟨rfl, by (exact .bool _)⟩ ?_))) ?_; (repeat (first | refine Then.r ?_ | refine InBlk.r ?_)))
    exact ⟨_, rfl, by simp [prf]; omega, rfl⟩
  by_cases h5 : a = b
  · by_cases h6 : j < k
    · (repeat (first | (with_reducible refine AWo.cons ?_) | ((with_reducible refine Step.id ?_); first | ((with_reducible apply Step.gdT); exact rfl; exact rfl; (focus ((simp only [decide_eq_true_eq, decide_eq_false_iff_not, Bool.not_eq_true', Bool.not_eq_false', Bool.not_true, Bool.not_false]; first | assumption | omega)))) | ((with_reducible apply Step.move); exact rfl; exact rfl) | ((with_reducible apply Step.assign); exact rfl; exact rfl) | ((with_reducible apply Step.lss); exact rfl; exact rfl; exact rfl) | ((with_reducible apply Step.eql); exact rfl; exact rfl; exact rfl) | ((with_reducible apply Step.pickT); exact rfl; exact rfl; exact rfl; exact rfl; (focus ((simp only [decide_eq_true_eq, decide_eq_false_iff_not, Bool.not_eq_true', Bool.not_eq_false', Bool.not_true, Bool.not_false]; first | assumption | omega)))) | ((with_reducible apply Step.pickF); exact rfl; exact rfl; exact rfl; exact rfl; (focus ((simp only [decide_eq_true_eq, decide_eq_false_iff_not, Bool.not_eq_true', Bool.not_eq_false', Bool.not_true, Bool.not_false]; first | assumption | omega))))) | (with_reducible refine AWo.nil ?_) | ((with_reducible apply AW.seq)) | ((with_reducible apply Then.n)) | ((with_reducible apply AW.regL)) | ((with_reducible apply AW.skip)) | ((with_reducible apply AW.condF); exact rfl; (focus ((simp only [decide_eq_true_eq, decide_eq_false_iff_not, Bool.not_eq_true', Bool.not_eq_false', Bool.not_true, Bool.not_false]; first | assumption | omega))))))
      (refine AW.retD (l := [(8, _)]) (by repeat (first | exact trivial | (refine And.intro ⟨rfl, by (exact .bool _)⟩ ?_))) ?_; (repeat (first | refine Then.r ?_ | refine InBlk.r ?_)))
      exact ⟨_, rfl, by unfold prf; rw [decide_eq_true (p := 0 ≤ a) (by omega), decide_eq_false (p := k < 0) (by omega), decide_eq_false (p := b < 0) (by omega), decide_eq_false (p := a < b) (by omega), decide_eq_true (p := a = b) h5, decide_eq_true (p := j < k) h6]; first | rfl | simp, rfl⟩
    · (repeat (first | (with_reducible refine AWo.cons ?_) | ((with_reducible refine Step.id ?_); first | ((with_reducible apply Step.gdT); exact rfl; exact rfl; (focus ((simp only [decide_eq_true_eq, decide_eq_false_iff_not, Bool.not_eq_true', Bool.not_eq_false', Bool.not_true, Bool.not_false]; first | assumption | omega)))) | ((with_reducible apply Step.move); exact rfl; exact rfl) | ((with_reducible apply Step.assign); exact rfl; exact rfl) | ((with_reducible apply Step.lss); exact rfl; exact rfl; exact rfl) | ((with_reducible apply Step.eql); exact rfl; exact rfl; exact rfl) | ((with_reducible apply Step.pickT); exact rfl; exact rfl; exact rfl; exact rfl; (focus ((simp only [decide_eq_true_eq, decide_eq_false_iff_not, Bool.not_eq_true', Bool.not_eq_false', Bool.not_true, Bool.not_false]; first | assumption | omega)))) | ((with_reducible apply Step.pickF); exact rfl; exact rfl; exact rfl; exact rfl; (focus ((simp only [decide_eq_true_eq, decide_eq_false_iff_not, Bool.not_eq_true', Bool.not_eq_false', Bool.not_true, Bool.not_false]; first | assumption | omega))))) | (with_reducible refine AWo.nil ?_) | ((with_reducible apply AW.seq)) | ((with_reducible apply Then.n)) | ((with_reducible apply AW.regL)) | ((with_reducible apply AW.skip)) | ((with_reducible apply AW.condF); exact rfl; (focus ((simp only [decide_eq_true_eq, decide_eq_false_iff_not, Bool.not_eq_true', Bool.not_eq_false', Bool.not_true, Bool.not_false]; first | assumption | omega))))))
      (refine AW.retD (l := [(8, _)]) (by repeat (first | exact trivial | (refine And.intro ⟨rfl, by (exact .bool _)⟩ ?_))) ?_; (repeat (first | refine Then.r ?_ | refine InBlk.r ?_)))
      exact ⟨_, rfl, by unfold prf; rw [decide_eq_true (p := 0 ≤ a) (by omega), decide_eq_false (p := k < 0) (by omega), decide_eq_false (p := b < 0) (by omega), decide_eq_false (p := a < b) (by omega), decide_eq_true (p := a = b) h5, decide_eq_false (p := j < k) h6]; first | rfl | simp, rfl⟩
  · (repeat (first | (with_reducible refine AWo.cons ?_) | ((with_reducible refine Step.id ?_); first | ((with_reducible apply Step.gdT); exact rfl; exact rfl; (focus ((simp only [decide_eq_true_eq, decide_eq_false_iff_not, Bool.not_eq_true', Bool.not_eq_false', Bool.not_true, Bool.not_false]; first | assumption | omega)))) | ((with_reducible apply Step.gdF); exact rfl; exact rfl; (focus ((simp only [decide_eq_true_eq, decide_eq_false_iff_not, Bool.not_eq_true', Bool.not_eq_false', Bool.not_true, Bool.not_false]; first | assumption | omega)))) | ((with_reducible apply Step.move); exact rfl; exact rfl) | ((with_reducible apply Step.assign); exact rfl; exact rfl) | ((with_reducible apply Step.lss); exact rfl; exact rfl; exact rfl) | ((with_reducible apply Step.eql); exact rfl; exact rfl; exact rfl) | ((with_reducible apply Step.pickF); exact rfl; exact rfl; exact rfl; exact rfl; (focus ((simp only [decide_eq_true_eq, decide_eq_false_iff_not, Bool.not_eq_true', Bool.not_eq_false', Bool.not_true, Bool.not_false]; first | assumption | omega))))) | (with_reducible refine AWo.nil ?_) | ((with_reducible apply AW.seq)) | ((with_reducible apply Then.n)) | ((with_reducible apply AW.regL)) | ((with_reducible apply AW.skip)) | ((with_reducible apply AW.condF); exact rfl; (focus ((simp only [decide_eq_true_eq, decide_eq_false_iff_not, Bool.not_eq_true', Bool.not_eq_false', Bool.not_true, Bool.not_false]; first | assumption | omega))))))
    (refine AW.retD (l := [(8, _)]) (by repeat (first | exact trivial | (refine And.intro ⟨rfl, by (exact .bool _)⟩ ?_))) ?_; (repeat (first | refine Then.r ?_ | refine InBlk.r ?_)))
    exact ⟨_, rfl, by simp [prf]; omega, rfl⟩
/-- What a row says of a partner. -/
def vI (c : Nat → Int) (k : Int) : Int := if 0 ≤ k then c k.toNat else -1
/-- Rows of pairs. -/
def prC (X : List (Nat × Nat)) : List Value := X.flatMap fun p => [.int .i64 ((p.1 : Nat) : Int), .int .i64 ((p.2 : Nat) : Int)]
theorem prC_len (X : List (Nat × Nat)) : (prC X).length = X.length * 2 := by
  induction X with
  | nil => rfl
  | cons x X ih => simp only [prC, List.flatMap_cons, List.length_append, List.length_cons] at ih ⊢; rw [ih]; simp; omega
theorem prC_snoc (X : List (Nat × Nat)) (p : Nat × Nat) : prC (X ++ [p]) = prC X ++ [.int .i64 ((p.1 : Nat) : Int), .int .i64 ((p.2 : Nat) : Int)] := by simp [prC]
theorem g0_prC (X : List (Nat × Nat)) : ∀ v ∈ prC X, g0 v = true := fun v hv => by
  obtain ⟨x, _, hx⟩ := List.mem_flatMap.1 hv
  simp at hx
  rcases hx with rfl | rfl <;> rfl
theorem prC_get (X : List (Nat × Nat)) : ∀ (k : Nat), k < X.length → ∀ (i : Nat) (v : Value), ([.int .i64 (((X.getD k (0, 0)).1 : Nat) : Int), .int .i64 (((X.getD k (0, 0)).2 : Nat) : Int)] : List Value)[i]? = some v → (prC X)[k * 2 + i]? = some v := by
  induction X with
  | nil => intro k h; simp at h
  | cons x X ih =>
    intro k h i v hi
    simp only [prC, List.flatMap_cons]
    cases k with
    | zero =>
      have : i < 2 := by
        have := (List.getElem?_eq_some_iff.1 hi).1
        simpa using this
      rw [List.getElem?_append_left (by simp; omega)]
      simpa using hi
    | succ k =>
      rw [List.getElem?_append_right (by simp; omega)]
      have e : (k + 1) * 2 + i - [Value.int .i64 ((x.1 : Nat) : Int), Value.int .i64 ((x.2 : Nat) : Int)].length = k * 2 + i := by simp; omega
      rw [e]
      exact ih k (by simpa using h) i v (by simpa using hi)
def Prs (m : AM) (v : Value) (X : List (Nat × Nat)) : Prop := ∃ a o, Sl v a o X.length ∧ a < m.length ∧ ∀ k, k < X.length → RdL m a (o + k * 2) [.int .i64 (((X.getD k (0, 0)).1 : Nat) : Int), .int .i64 (((X.getD k (0, 0)).2 : Nat) : Int)]
theorem Prs.old {m : AM} {v : Value} {X : List (Nat × Nat)} (L : AM) (h : Prs m v X) : Prs (m ++ L) v X := by
  obtain ⟨a, o, h1, h2, h3⟩ := h
  exact ⟨a, o, h1, by simp; omega, fun k hk => (h3 k hk).old L⟩
theorem prs_new {M L : AM} {k : Nat} {X : List (Nat × Nat)} {n : Nat} (hn : n = X.length) (hk : k < L.length) (h : L[k]? = some (gb (prC X) 2)) : Prs (M ++ L) (gv (M.length + k) n) X := by
  subst hn
  refine ⟨M.length + k, 0, gv_sl _ _, by simp; omega, fun i hi => ?_⟩
  have hp : 0 < (prC X).length := by rw [prC_len]; omega
  rw [gb_pos hp] at h
  refine ⟨_, by rw [get_app]; exact h, fun q v hq => ?_⟩
  rw [Nat.zero_add]; exact prC_get X i hi q v hq
theorem prs_nil {M : AM} (h : 0 < M.length) : Prs M (.slice none 0 0) [] := ⟨0, 0, Sl.nil _ _, h, fun k hk => by simp at hk⟩
theorem el62 : elemB Try.prog 62 = some (67, 2, 16, #[.int .i64 0, .int .i64 0]) := by kernel_rfl
theorem un62 : Try.prog.underlying 62 = some (.slice 67) := by kernel_rfl
theorem bl67 {a b : Int} : abuild Try.prog 67 [(0, .int .i64 a), (1, .int .i64 b)] = some (.agg #[.int .i64 a, .int .i64 b]) := by kernel_rfl
theorem bs62 {m : AM} {k : Nat} {a b : Int} : abuildSlice Try.prog m k 62 1 [(0, .agg #[.int .i64 a, .int .i64 b])] = some (.slice (some ⟨k, 0, none⟩) 1 1, m.set k (some { cells := [.int .i64 a, .int .i64 b] })) := by kernel_rfl
section
variable {P : Program} {nt : Nat} {ops : Array Oper} {t : Fm} {m : AM} {K : Fm → AM → Prop} {d T : Nat} {p : String} {af : Array Edge}
end
end Go.Proofs.Ytajpngnphbdnnaa.Abs
namespace Go.Proofs.Ytajpngnphbdnnaa.Abs
set_option linter.unusedSimpArgs false
set_option linter.unusedVariables false
open Go.RowKit
open Go.Proofs.Ytajpngnphbdnnaa.Sim
open Go.Proofs
open Hung
theorem wgS_val {c : Nat → Nat → Int} {r : Nat} {M : List Int} : ∀ {k : Nat} {tk : Nat → Bool} {s q : Int}, wgS c r M k = some (tk, s, q) →
    (∀ i, i < k → M.getD i 0 = -1 ∨ ∃ j : Nat, M.getD i 0 = (j : Nat) ∧ j < r ∧ 0 ≤ c i j ∧ tk j = true) ∧ (∀ i i', i < k → i' < k → 0 ≤ M.getD i 0 → M.getD i 0 = M.getD i' 0 → i = i') ∧ (∀ j, tk j = true → ∃ i, i < k ∧ M.getD i 0 = (j : Nat))
  | 0, tk, s, q, h => by
    simp only [wgS] at h
    injection h with h
    injection h with h _
    subst h
    exact ⟨fun _ h => absurd h (Nat.not_lt_zero _), fun _ _ h => absurd h (Nat.not_lt_zero _), fun _ h => by cases h⟩
  | k + 1, tk, s, q, h => by
    simp only [wgS] at h
    cases hk : wgS c r M k with
    | none => rw [hk] at h; cases h
    | some y =>
      obtain ⟨tk0, s0, q0⟩ := y
      obtain ⟨a1, a2, a3⟩ := wgS_val hk
      rw [hk] at h
      simp only at h
      split at h
      · rename_i hm
        injection h with h
        injection h with h _
        subst h
        refine ⟨fun i hi => ?_, fun i i' hi hi' h0 he => ?_, fun j hj => ?_⟩
        · by_cases e : i = k
          · subst e; exact .inl hm
          · exact a1 i (by omega)
        · by_cases e : i = k
          · subst e; omega
          · by_cases e' : i' = k
            · subst e'; omega
            · exact a2 i i' (by omega) (by omega) h0 he
        · obtain ⟨i, i1, i2⟩ := a3 j hj
          exact ⟨i, by omega, i2⟩
      · rename_i hm
        split at h
        · cases h
        · rename_i hn
          injection h with h
          injection h with h _
          subst h
          have hn1 : ¬ M.getD k 0 < 0 := fun h => hn (.inl h)
          have hn2 : ¬ (r : Int) ≤ M.getD k 0 := fun h => hn (.inr (.inl h))
          have hn3 : tk0 (M.getD k 0).toNat = false := by
            cases e : tk0 (M.getD k 0).toNat with
            | false => rfl
            | true => exact absurd (.inr (.inr (.inl e))) hn
          have hn4 : ¬ c k (M.getD k 0).toNat < 0 := fun h => hn (.inr (.inr (.inr h)))
          have hfresh : ∀ i, i < k → 0 ≤ M.getD i 0 → M.getD i 0 ≠ M.getD k 0 := fun i hi h0 he => by
            rcases a1 i hi with h | ⟨j, h1, _, _, h4⟩
            · omega
            · rw [← he, h1] at hn3
              simp only [Int.toNat_natCast] at hn3
              rw [hn3] at h4; cases h4
          refine ⟨fun i hi => ?_, fun i i' hi hi' h0 he => ?_, fun j hj => ?_⟩
          · by_cases e : i = k
            · subst e
              exact .inr ⟨(M.getD i 0).toNat, by omega, by omega, by omega, up_same _ _ _⟩
            · rcases a1 i (by omega) with h | ⟨j, h1, h2, h3, h4⟩
              · exact .inl h
              · exact .inr ⟨j, h1, h2, h3, by unfold up; split <;> first | rfl | exact h4⟩
          · by_cases e : i = k
            · by_cases e' : i' = k
              · omega
              · subst e
                exact absurd he.symm (hfresh i' (by omega) (by omega))
            · by_cases e' : i' = k
              · subst e'
                exact absurd he (hfresh i (by omega) h0)
              · exact a2 i i' (by omega) (by omega) h0 he
          · by_cases e : j = (M.getD k 0).toNat
            · exact ⟨k, by omega, by omega⟩
            · rw [up_ne _ _ e] at hj
              obtain ⟨i, i1, i2⟩ := a3 j hj
              exact ⟨i, by omega, i2⟩
/-- The partner of a right glove, -1 without one. -/
def ptn (M : List Int) (j : Nat) : Int := idxF (fun k => decide (M.getD k 0 = ((j : Nat) : Int))) M.length
def vJ (c : Nat → Nat → Int) (j : Nat) (p : Int) : Int := if 0 ≤ p then c p.toNat j else -1
def bkB (c : Nat → Nat → Int) (M : List Int) (i j : Nat) : Bool := decide (M.getD i 0 ≠ ((j : Nat) : Int)) && (prf (c i j) j (vI (c i) (M.getD i 0)) (M.getD i 0) && prf (c i j) i (vJ c j (ptn M j)) (ptn M j))
def bkJ (b : Nat → Nat → Bool) (i : Nat) : Nat → List (Nat × Nat)
  | 0 => []
  | j + 1 => bkJ b i j ++ if b i j = true then [(i, j)] else []
def bkR (b : Nat → Nat → Bool) (r : Nat) : Nat → List (Nat × Nat)
  | 0 => []
  | i + 1 => bkR b r i ++ bkJ b i r
theorem bkJ_len (b : Nat → Nat → Bool) (i : Nat) : ∀ j, (bkJ b i j).length ≤ j
  | 0 => Nat.le_refl _
  | j + 1 => by have := bkJ_len b i j; simp only [bkJ, List.length_append]; split <;> simp <;> omega
theorem bkR_len (b : Nat → Nat → Bool) (r : Nat) : ∀ i, (bkR b r i).length ≤ i * r
  | 0 => by simp [bkR]
  | i + 1 => by have := bkR_len b r i; have := bkJ_len b i r; simp only [bkR, List.length_append, Nat.add_mul, Nat.one_mul]; omega
theorem idxF_bd (pr : Nat → Bool) (n : Nat) : -1 ≤ idxF pr n ∧ idxF pr n < (n : Nat) ∧ (0 ≤ idxF pr n → pr (idxF pr n).toNat = true) := by
  unfold idxF
  cases h : (List.range n).find? pr with
  | none => simp; omega
  | some k =>
    have h1 := List.mem_range.1 (List.mem_of_find?_eq_some h)
    have h2 := List.find?_some h
    refine ⟨by simp only; omega, by simp only; omega, fun _ => by simpa using h2⟩
/-- What Blocking answers. -/
def blk (c : Nat → Nat → Int) (l r : Nat) (M : List Int) : List (Nat × Nat) := if (wgh c l r M).2.2 = 0 then bkR (bkB c M) r l else []
set_option maxHeartbeats 8000000 in
set_option maxRecDepth 100000 in
theorem Blocking_ok {m : AM} {lv rv mv : Value} {u : Ru} {L R : List Gl} {M : List Int} (hl : Gls m lv L) (hr : Gls m rv R) (hL : sB L = true) (hR : sB R = true) (hu : uB u = true) (hM : Ints m mv M) (hMl : M.length ≤ 9223372036854775807) :
    ACall Try.prog 39 #[lv, rv, u.v, mv] m (More (fun m' v => ∃ w, v = .tuple #[w, .int .i64 (wgh (cT u L R) L.length R.length M).2.2] ∧ Prs m' w (blk (cT u L R) L.length R.length M)) m) := by
  have h1 : L.length ≤ 32 ∧ L.all gB = true := by simpa [sB] using hL
  have h2 : R.length ≤ 32 ∧ R.all gB = true := by simpa [sB] using hR
  have r0 : ∀ T : AM, RdL (m ++ (some { cells := u.cells } :: T)) (m.length + 0) 0 u.cells := fun T => RdL.new rfl rfl
  have hcs := cT_cs hu hL hR
  refine ACall.start Try.func39 rfl rfl ?_
  (repeat (first | (with_reducible refine AWo.cons ?_) | ((with_reducible refine Step.id ?_); first | ((with_reducible apply Step.move); exact rfl; exact rfl) | ((with_reducible apply Step.assign); exact rfl; exact rfl) | ((with_reducible apply Step.loadL (n := 8)); exact rfl; (focus (decide +kernel)); (focus (decide +kernel)); exact rfl; (focus (exact RdL.new rfl rfl)); exact rfl; exact rfl) | ((with_reducible apply Step.box 0); exact rfl; exact rfl; (focus (kernel_rfl)); exact rfl; (focus (first | (simp only [List.nil_append, List.cons_append, List.set_cons_zero, List.set_cons_succ, iv_set, bv_set, iv_rep, bv_rep]; done) | (simp only [List.nil_append, List.cons_append, List.set_cons_zero, List.set_cons_succ, iv_set, bv_set, iv_rep, bv_rep]; rfl) | rfl)))) | (with_reducible refine AWo.nil ?_) | ((with_reducible apply AW.seq)) | ((with_reducible apply Then.n)) | ((with_reducible apply AW.regL))))
  ((with_reducible apply Step.callX fit); exact rfl; exact Try.func54; exact rfl; exact rfl; exact (costs_ok (hl.old _) (hr.old _) hL hR hu))
  rintro tv m1 ⟨N0, hN0⟩ hT
  have hMN : ∃ N, m1 = m ++ N := ⟨_, by rw [hN0, List.append_assoc]⟩
  have hM1 : Ints m1 mv M := by rw [hN0]; exact (hM.old _).old _
  clear r0 hN0
  unfold blk
  generalize cT u L R = c at *
  obtain ⟨a, cv, b, o, htv, t1, t2, t3, t4, t5, t6, t7⟩ := id hT
  generalize hl' : L.length = l at *
  generalize hr' : R.length = r at *
  subst htv
  obtain ⟨ma, mo, g1, g2, g3⟩ := id hM1
  obtain ⟨s, q, e, hw⟩ : ∃ s q e, wgh c l r M = (s, q, e) := ⟨_, _, _, rfl⟩
  rw [hw]
  have hpos : 0 < m1.length := by omega
  have hpr := fun T => pairing_ok (hT.old T) hcs (by omega) (by omega) (hM1.old T) hMl hw
  by_cases he : e = 0
  · rw [if_pos he]
    subst he
    have hlen : M.length = l := by
      unfold wgh at hw
      split at hw
      · injection hw with _ hw; injection hw with _ hw; cases hw
      · omega
    have hval : ∃ tk s q, wgS c r M l = some (tk, s, q) := by
      unfold wgh at hw
      rw [if_neg (by omega)] at hw
      split at hw
      · exact ⟨_, _, _, by assumption⟩
      · injection hw with _ hw; injection hw with _ hw; cases hw
    obtain ⟨tk, s', q', hval⟩ := hval
    obtain ⟨v1, _, _⟩ := wgS_val hval
    subst hlen
    (repeat (first | (with_reducible refine AWo.cons ?_) | ((with_reducible refine Step.id ?_); first | ((with_reducible apply Step.move); exact rfl; exact rfl) | ((with_reducible apply Step.assign); exact rfl; exact rfl) | ((with_reducible apply Step.load); exact rfl; (focus (decide +kernel)); exact rfl; (focus (exact t2.old _))) | ((with_reducible apply Step.field0); exact rfl; (focus (decide +kernel)); exact rfl) | ((with_reducible apply Step.ptrNot); exact rfl; exact rfl; exact un77; exact rfl) | ((with_reducible apply Step.neq); exact rfl; exact rfl; exact rfl) | ((with_reducible apply Step.len); exact rfl; (focus (assumption)); (focus (decide +kernel)); exact rfl) | ((with_reducible apply Step.nilp); exact rfl; exact rfl) | ((with_reducible apply Step.extract); exact rfl; exact rfl; exact rfl) | ((with_reducible apply Step.callR fit); exact rfl; exact Try.func68; exact rfl; exact rfl; exact (hpr _))) | (with_reducible refine AWo.nil ?_) | ((with_reducible apply AW.seq)) | ((with_reducible apply Then.n)) | ((with_reducible apply AW.regL)) | ((with_reducible apply AW.block)) | ((with_reducible apply AW.skip)) | ((with_reducible apply AW.condF); exact rfl; (focus (rfl)))))
    rw [List.append_nil]
    refine AW.rebase ?_
    have wt : Low m1.length (.pointer (some ⟨a, 0, none⟩)) := .ptr t1
    refine AW.loopT (fun rk t L' => ∃ i : Nat, rk = M.length - i ∧ i ≤ M.length ∧ L' = [gb (prC (bkR (bkB c M) r i)) 2] ∧ t = [(3, mv), (10, .pointer (some ⟨a, 0, none⟩)), (14, gv (m1.length + 0) (bkR (bkB c M) r i).length), (41, cv), (42, .int .i64 (M.length : Nat)), (43, .int .i64 (i : Nat))])
      ⟨_, _, _, Back.pad (by repeat (first | exact trivial | (refine And.intro ⟨rfl, by (first | exact Low.rid (by assumption) (by simp) | exact .int _ _ | exact Ren.of_gv (by first | (simp; done) | omega | (simp; omega)) | exact Ren.of_sl (by assumption) (by first | omega | (simp; omega)))⟩ ?_))) CellsOk.nil, 0, rfl, Nat.zero_le _, rfl, rfl⟩ ?_
    rintro rk t L' ⟨i, rfl, hi, rfl, rfl⟩
    rcases Nat.lt_or_ge i M.length with hil | hig
    · obtain ⟨w, k1, rb, ro, w1, w2, w3⟩ := t7 i hil
      rw [tab_len] at w1 w3
      have qm := g3 i hil
      have vmi := v1 i hil
      have hbi := bkR_len (bkB c M) r i
      obtain ⟨X0, hX0⟩ : ∃ X0, bkR (bkB c M) r i = X0 := ⟨_, rfl⟩
      rw [hX0] at hbi ⊢
      have hX1 : bkR (bkB c M) r (i + 1) = X0 ++ bkJ (bkB c M) i r := by rw [← hX0]; rfl
      have hbd : X0.length ≤ 1024 := Nat.le_trans hbi (Nat.le_trans (Nat.mul_le_mul (show i ≤ 32 by omega) (show r ≤ 32 by omega)) (by omega))
      obtain ⟨x, hx⟩ : ∃ x, M.getD i 0 = x := ⟨_, rfl⟩
      obtain ⟨mine, hmine⟩ : ∃ y, vI (c i) x = y := ⟨_, rfl⟩
      have hbk : ∀ j, bkB c M i j = (decide (x ≠ ((j : Nat) : Int)) && (prf (c i j) j mine x && prf (c i j) i (vJ c j (ptn M j)) (ptn M j))) := fun j => by unfold bkB; rw [hx, hmine]
      rw [hx] at qm vmi
      (repeat (first | (with_reducible refine AWo.cons ?_) | ((with_reducible refine Step.id ?_); first | ((with_reducible apply Step.move); exact rfl; exact rfl) | ((with_reducible apply Step.assign); exact rfl; exact rfl) | ((with_reducible apply Step.load); exact rfl; (focus (decide +kernel)); exact rfl; (focus (first | exact k1.old _ | exact qm.old _))) | ((with_reducible apply Step.ix1); exact rfl; (focus (assumption)); exact rfl; (focus (decide +kernel)); exact rfl; (focus (omega))) | ((with_reducible apply Step.lss); exact rfl; exact rfl; exact rfl) | ((with_reducible apply Step.geq); exact rfl; exact rfl; exact rfl)) | (with_reducible refine AWo.nil ?_) | ((with_reducible apply AW.seq)) | ((with_reducible apply Then.n)) | ((with_reducible apply AW.regL)) | ((with_reducible apply AW.block)) | ((with_reducible apply AW.skip)) | ((with_reducible apply AW.condT); exact rfl; (focus ((simp only [decide_eq_true_eq, decide_eq_false_iff_not, Bool.not_eq_true', Bool.not_eq_false', Bool.not_true, Bool.not_false]; first | assumption | omega))))))
      refine AW.join (fun t' m' => m' = m1 ++ [gb (prC X0) 2] ∧ All (fun i v => t' i = some v) [(3, mv), (10, .pointer (some ⟨a, 0, none⟩)), (14, gv (m1.length + 0) X0.length), (15, .int .i64 (i : Nat)), (16, w), (17, .int .i64 mine), (41, cv), (42, .int .i64 (M.length : Nat)), (43, .int .i64 (i : Nat))]) ?_ ?_
      · rcases vmi with rfl | ⟨j0, rfl, j1, j2, _⟩
        · obtain rfl : mine = -1 := by rw [← hmine]; rfl
          (repeat (first | ((with_reducible apply Then.n)) | ((with_reducible apply AW.skip)) | ((with_reducible apply AW.condF); exact rfl; (focus (rfl)))))
          exact ⟨rfl, (by repeat (first | exact trivial | (refine And.intro rfl ?_)))⟩
        · obtain rfl : mine = c i j0 := by rw [← hmine]; unfold vI; rw [if_pos (by omega), Int.toNat_natCast]
          have q5 := w3 j0 j1
          rw [tab_get (c i) j1] at q5
          (repeat (first | (with_reducible refine AWo.cons ?_) | ((with_reducible refine Step.id ?_); first | ((with_reducible apply Step.move); exact rfl; exact rfl) | ((with_reducible apply Step.assign); exact rfl; exact rfl) | ((with_reducible apply Step.load); exact rfl; (focus (decide +kernel)); exact rfl; (focus (first | exact qm.old _ | exact q5.old _))) | ((with_reducible apply Step.ix1); exact rfl; (focus (assumption)); exact rfl; (focus (decide +kernel)); exact rfl; (focus (omega)))) | (with_reducible refine AWo.nil ?_) | ((with_reducible apply Then.n)) | ((with_reducible apply AW.regL)) | ((with_reducible apply AW.condT); exact rfl; (focus (rfl)))))
          exact ⟨rfl, (by repeat (first | exact trivial | (refine And.intro rfl ?_)))⟩
      rintro t' _ ⟨rfl, hall⟩
      refine AW.weak (fr_all hall) ?_
      clear hall
      (repeat (first | (with_reducible refine AWo.cons ?_) | ((with_reducible refine Step.id ?_); first | ((with_reducible apply Step.move); exact rfl; exact rfl) | ((with_reducible apply Step.len); exact rfl; (focus (assumption)); (focus (decide +kernel)); exact rfl)) | (with_reducible refine AWo.nil ?_) | ((with_reducible apply AW.seq)) | ((with_reducible apply Then.n)) | ((with_reducible apply AW.regL)) | ((with_reducible apply AW.block))))
      refine AW.loopT (fun rk t L' => ∃ j : Nat, rk = r - j ∧ j ≤ r ∧ L' = [gb (prC (X0 ++ bkJ (bkB c M) i j)) 2] ∧ t = [(3, mv), (10, .pointer (some ⟨a, 0, none⟩)), (14, gv (m1.length + 0) (X0 ++ bkJ (bkB c M) i j).length), (15, .int .i64 (i : Nat)), (17, .int .i64 mine), (41, cv), (42, .int .i64 (M.length : Nat)), (43, .int .i64 (i : Nat)), (60, w), (61, .int .i64 (r : Nat)), (62, .int .i64 (j : Nat))])
        ⟨_, [(3, mv), (10, .pointer (some ⟨a, 0, none⟩)), (14, gv (m1.length + 0) X0.length), (15, .int .i64 (i : Nat)), (17, .int .i64 mine), (41, cv), (42, .int .i64 (M.length : Nat)), (43, .int .i64 (i : Nat)), (60, w), (61, .int .i64 (r : Nat)), (62, .int .i64 ((0 : Nat) : Int))], [gb (prC X0) 2], (Or.inl ⟨rfl, (by repeat (first | exact trivial | (refine And.intro rfl ?_)))⟩), 0, rfl, Nat.zero_le _, by rw [bkJ, List.append_nil], by rw [bkJ, List.append_nil]⟩ ?_
      rintro rk t L' ⟨j, rfl, hj, rfl, rfl⟩
      rcases Nat.lt_or_ge j r with hjr | hjg
      · have q5 := w3 j hjr
        rw [tab_get (c i) hjr] at q5
        have hj1 : bkJ (bkB c M) i (j + 1) = bkJ (bkB c M) i j ++ if bkB c M i j = true then [(i, j)] else [] := rfl
        rw [hbk j] at hj1
        have hbj := bkJ_len (bkB c M) i j
        have hidx := fun T => index_ok (x := ((j : Nat) : Int)) (hM1.old T) (by omega)
        have hpb := idxF_bd (fun k => decide (M.getD k 0 = ((j : Nat) : Int))) M.length
        obtain ⟨X1, hX1'⟩ : ∃ X1, X0 ++ bkJ (bkB c M) i j = X1 := ⟨_, rfl⟩
        have hX2 : X0 ++ bkJ (bkB c M) i (j + 1) = X1 ++ if (decide (x ≠ ((j : Nat) : Int)) && (prf (c i j) j mine x && prf (c i j) i (vJ c j (ptn M j)) (ptn M j))) = true then [(i, j)] else [] := by rw [hj1, ← List.append_assoc, hX1']
        have hbx : X1.length ≤ 2048 := by rw [← hX1', List.length_append]; omega
        have hptn : idxF (fun k => decide (M.getD k 0 = ((j : Nat) : Int))) M.length = ptn M j := rfl
        rw [hptn] at hpb hidx
        rw [hX1']
        clear hj1
        obtain ⟨pt, hpt⟩ : ∃ pt, ptn M j = pt := ⟨_, rfl⟩
        obtain ⟨th, hth⟩ : ∃ th, vJ c j pt = th := ⟨_, rfl⟩
        rw [hpt] at hidx hX2 hpb
        rw [hth] at hX2
        (repeat (first | (with_reducible refine AWo.cons ?_) | ((with_reducible refine Step.id ?_); first | ((with_reducible apply Step.move); exact rfl; exact rfl) | ((with_reducible apply Step.assign); exact rfl; exact rfl) | ((with_reducible apply Step.load); exact rfl; (focus (decide +kernel)); exact rfl; (focus (exact q5.old _))) | ((with_reducible apply Step.ix1); exact rfl; (focus (assumption)); exact rfl; (focus (decide +kernel)); exact rfl; (focus (omega))) | ((with_reducible apply Step.lss); exact rfl; exact rfl; exact rfl) | ((with_reducible apply Step.geq); exact rfl; exact rfl; exact rfl) | ((with_reducible apply Step.callR fit); exact rfl; exact Try.func77; exact rfl; exact rfl; exact (hidx _))) | (with_reducible refine AWo.nil ?_) | ((with_reducible apply AW.seq)) | ((with_reducible apply Then.n)) | ((with_reducible apply AW.regL)) | ((with_reducible apply AW.block)) | ((with_reducible apply AW.skip)) | ((with_reducible apply AW.condT); exact rfl; (focus ((simp only [decide_eq_true_eq, decide_eq_false_iff_not, Bool.not_eq_true', Bool.not_eq_false', Bool.not_true, Bool.not_false]; first | assumption | omega))))))
        refine AW.join (fun t' m' => m' = m1 ++ [gb (prC X1) 2] ∧ All (fun i v => t' i = some v) [(3, mv), (10, .pointer (some ⟨a, 0, none⟩)), (14, gv (m1.length + 0) X1.length), (15, .int .i64 (i : Nat)), (17, .int .i64 mine), (18, .int .i64 (j : Nat)), (19, .int .i64 (c i j)), (20, .int .i64 pt), (21, .int .i64 th), (41, cv), (42, .int .i64 (M.length : Nat)), (43, .int .i64 (i : Nat)), (60, w), (61, .int .i64 (r : Nat)), (62, .int .i64 (j : Nat))]) ?_ ?_
        · by_cases h0 : pt < 0
          · obtain rfl : th = -1 := by rw [← hth]; unfold vJ; rw [if_neg (by omega)]
            (repeat (first | ((with_reducible apply Then.n)) | ((with_reducible apply AW.skip)) | ((with_reducible apply AW.condF); exact rfl; (focus ((simp only [decide_eq_true_eq, decide_eq_false_iff_not, Bool.not_eq_true', Bool.not_eq_false', Bool.not_true, Bool.not_false]; first | assumption | omega))))))
            exact ⟨rfl, (by repeat (first | exact trivial | (refine And.intro rfl ?_)))⟩
          · obtain ⟨pt', rfl⟩ := Int.eq_ofNat_of_zero_le (show 0 ≤ pt by omega)
            obtain rfl : th = c pt' j := by rw [← hth]; unfold vJ; rw [if_pos (by omega), Int.toNat_natCast]
            obtain ⟨w', k1', rb', ro', w1', w2', w3'⟩ := t7 pt' (by omega)
            rw [tab_len] at w1' w3'
            have q5' := w3' j hjr
            rw [tab_get (c pt') hjr] at q5'
            (repeat (first | (with_reducible refine AWo.cons ?_) | ((with_reducible refine Step.id ?_); first | ((with_reducible apply Step.move); exact rfl; exact rfl) | ((with_reducible apply Step.assign); exact rfl; exact rfl) | ((with_reducible apply Step.load); exact rfl; (focus (decide +kernel)); exact rfl; (focus (first | exact t2.old _ | exact k1'.old _ | exact q5'.old _))) | ((with_reducible apply Step.ix1); exact rfl; (focus (assumption)); exact rfl; (focus (decide +kernel)); exact rfl; (focus (omega))) | ((with_reducible apply Step.field0); exact rfl; (focus (decide +kernel)); exact rfl) | ((with_reducible apply Step.nilp); exact rfl; exact rfl)) | (with_reducible refine AWo.nil ?_) | ((with_reducible apply Then.n)) | ((with_reducible apply AW.regL)) | ((with_reducible apply AW.condT); exact rfl; (focus (rfl)))))
            exact ⟨rfl, (by repeat (first | exact trivial | (refine And.intro rfl ?_)))⟩
        rintro t' _ ⟨rfl, hall⟩
        refine AW.weak (fr_all hall) ?_
        clear hall
        have hp1 := fun T => prefers_ok (m := m1 ++ T) (a := c i j) (j := ((j : Nat) : Int)) (b := mine) (k := x)
        have hp2 := fun T => prefers_ok (m := m1 ++ T) (a := c i j) (j := ((i : Nat) : Int)) (b := th) (k := pt)
        by_cases hxj : x = ((j : Nat) : Int)
        · rw [if_neg (by rw [decide_eq_false (by simpa using hxj)]; simp), List.append_nil] at hX2
          (repeat (first | (with_reducible refine AWo.cons ?_) | ((with_reducible refine Step.id ?_); first | ((with_reducible apply Step.gdF); exact rfl; exact rfl; (focus (first | rfl | (simp only [decide_eq_true_eq, decide_eq_false_iff_not, Bool.not_eq_true', Bool.not_eq_false', Bool.not_true, Bool.not_false]; first | assumption | omega)))) | ((with_reducible apply Step.move); exact rfl; exact rfl) | ((with_reducible apply Step.load); exact rfl; (focus (decide +kernel)); exact rfl; (focus (exact qm.old _))) | ((with_reducible apply Step.ix1); exact rfl; (focus (assumption)); exact rfl; (focus (decide +kernel)); exact rfl; (focus (omega))) | ((with_reducible apply Step.add); exact rfl; exact rfl; (focus (omega)); exact rfl) | ((with_reducible apply Step.neq); exact rfl; exact rfl; exact rfl) | ((with_reducible apply Step.pickF); exact rfl; exact rfl; exact rfl; exact rfl; (focus (first | rfl | (simp only [decide_eq_true_eq, decide_eq_false_iff_not, Bool.not_eq_true', Bool.not_eq_false', Bool.not_true, Bool.not_false]; first | assumption | omega))))) | (with_reducible refine AWo.nil ?_) | ((with_reducible apply AW.seq)) | ((with_reducible apply Then.n)) | ((with_reducible apply AW.regL)) | ((with_reducible apply InBlk.n)) | ((with_reducible apply AW.skip)) | ((with_reducible apply AW.condF); exact rfl; (focus (rfl)))))
          exact ⟨_, [(3, mv), (10, .pointer (some ⟨a, 0, none⟩)), (14, gv (m1.length + 0) X1.length), (15, .int .i64 (i : Nat)), (17, .int .i64 mine), (41, cv), (42, .int .i64 (M.length : Nat)), (43, .int .i64 (i : Nat)), (60, w), (61, .int .i64 (r : Nat)), (62, .int .i64 ((j + 1 : Nat) : Int))], [gb (prC X1) 2], by omega, (Or.inl ⟨rfl, (by repeat (first | exact trivial | (refine And.intro rfl ?_)))⟩), j + 1, rfl, by omega, by rw [hX2], by rw [hX2]⟩
        · cases b1 : prf (c i j) j mine x with
          | false =>
            rw [b1] at hp1
            rw [b1, if_neg (by simp), List.append_nil] at hX2
            (repeat (first | (with_reducible refine AWo.cons ?_) | ((with_reducible refine Step.id ?_); first | ((with_reducible apply Step.gdT); exact rfl; exact rfl; (focus ((simp only [decide_eq_true_eq, decide_eq_false_iff_not, Bool.not_eq_true', Bool.not_eq_false', Bool.not_true, Bool.not_false]; first | assumption | omega)))) | ((with_reducible apply Step.gdF); exact rfl; exact rfl; (focus (rfl))) | ((with_reducible apply Step.move); exact rfl; exact rfl) | ((with_reducible apply Step.load); exact rfl; (focus (decide +kernel)); exact rfl; (focus (exact qm.old _))) | ((with_reducible apply Step.ix1); exact rfl; (focus (assumption)); exact rfl; (focus (decide +kernel)); exact rfl; (focus (omega))) | ((with_reducible apply Step.add); exact rfl; exact rfl; (focus (omega)); exact rfl) | ((with_reducible apply Step.neq); exact rfl; exact rfl; exact rfl) | ((with_reducible apply Step.pickT); exact rfl; exact rfl; exact rfl; exact rfl; (focus ((simp only [decide_eq_true_eq, decide_eq_false_iff_not, Bool.not_eq_true', Bool.not_eq_false', Bool.not_true, Bool.not_false]; first | assumption | omega)))) | ((with_reducible apply Step.pickF); exact rfl; exact rfl; exact rfl; exact rfl; (focus (rfl))) | ((with_reducible apply Step.callR fit); exact rfl; exact Try.func71; exact rfl; exact rfl; exact (hp1 _))) | (with_reducible refine AWo.nil ?_) | ((with_reducible apply AW.seq)) | ((with_reducible apply Then.n)) | ((with_reducible apply AW.regL)) | ((with_reducible apply InBlk.n)) | ((with_reducible apply AW.skip)) | ((with_reducible apply AW.condF); exact rfl; (focus (rfl)))))
            exact ⟨_, [(3, mv), (10, .pointer (some ⟨a, 0, none⟩)), (14, gv (m1.length + 0) X1.length), (15, .int .i64 (i : Nat)), (17, .int .i64 mine), (41, cv), (42, .int .i64 (M.length : Nat)), (43, .int .i64 (i : Nat)), (60, w), (61, .int .i64 (r : Nat)), (62, .int .i64 ((j + 1 : Nat) : Int))], [gb (prC X1) 2], by omega, (Or.inl ⟨rfl, (by repeat (first | exact trivial | (refine And.intro rfl ?_)))⟩), j + 1, rfl, by omega, by rw [hX2], by rw [hX2]⟩
          | true =>
            cases b2 : prf (c i j) i th pt with
            | false =>
              rw [b1] at hp1
              rw [b2] at hp2
              rw [b1, b2, if_neg (by simp), List.append_nil] at hX2
              (repeat (first | (with_reducible refine AWo.cons ?_) | ((with_reducible refine Step.id ?_); first | ((with_reducible apply Step.gdT); exact rfl; exact rfl; (focus (first | rfl | (simp only [decide_eq_true_eq, decide_eq_false_iff_not, Bool.not_eq_true', Bool.not_eq_false', Bool.not_true, Bool.not_false]; first | assumption | omega)))) | ((with_reducible apply Step.move); exact rfl; exact rfl) | ((with_reducible apply Step.load); exact rfl; (focus (decide +kernel)); exact rfl; (focus (exact qm.old _))) | ((with_reducible apply Step.ix1); exact rfl; (focus (assumption)); exact rfl; (focus (decide +kernel)); exact rfl; (focus (omega))) | ((with_reducible apply Step.add); exact rfl; exact rfl; (focus (omega)); exact rfl) | ((with_reducible apply Step.neq); exact rfl; exact rfl; exact rfl) | ((with_reducible apply Step.pickT); exact rfl; exact rfl; exact rfl; exact rfl; (focus (first | rfl | (simp only [decide_eq_true_eq, decide_eq_false_iff_not, Bool.not_eq_true', Bool.not_eq_false', Bool.not_true, Bool.not_false]; first | assumption | omega)))) | ((with_reducible apply Step.callR fit); exact rfl; exact Try.func71; exact rfl; exact rfl; exact (hp1 _)) | ((with_reducible apply Step.callR fit); exact rfl; exact Try.func71; exact rfl; exact rfl; exact (hp2 _))) | (with_reducible refine AWo.nil ?_) | ((with_reducible apply AW.seq)) | ((with_reducible apply Then.n)) | ((with_reducible apply AW.regL)) | ((with_reducible apply InBlk.n)) | ((with_reducible apply AW.skip)) | ((with_reducible apply AW.condF); exact rfl; (focus (rfl)))))
              exact ⟨_, [(3, mv), (10, .pointer (some ⟨a, 0, none⟩)), (14, gv (m1.length + 0) X1.length), (15, .int .i64 (i : Nat)), (17, .int .i64 mine), (41, cv), (42, .int .i64 (M.length : Nat)), (43, .int .i64 (i : Nat)), (60, w), (61, .int .i64 (r : Nat)), (62, .int .i64 ((j + 1 : Nat) : Int))], [gb (prC X1) 2], by omega, (Or.inl ⟨rfl, (by repeat (first | exact trivial | (refine And.intro rfl ?_)))⟩), j + 1, rfl, by omega, by rw [hX2], by rw [hX2]⟩
            | true =>
              rw [b1] at hp1
              rw [b2] at hp2
              rw [b1, b2, if_pos (by simpa using hxj)] at hX2
              have hln := prC_len X1
              have hg0 : ∀ v ∈ prC X1 ++ [Value.int .i64 ((i : Nat) : Int), Value.int .i64 ((j : Nat) : Int)], g0 v = true := fun v hv => by
                rcases List.mem_append.1 hv with h | h
                · exact g0_prC _ v h
                · simp at h
                  rcases h with rfl | rfl <;> rfl
              (repeat (first | (with_reducible refine AWo.cons ?_) | ((with_reducible refine Step.id ?_); first | ((with_reducible apply Step.gdT); exact rfl; exact rfl; (focus (first | rfl | (simp only [decide_eq_true_eq, decide_eq_false_iff_not, Bool.not_eq_true', Bool.not_eq_false', Bool.not_true, Bool.not_false]; first | assumption | omega)))) | ((with_reducible apply Step.move); exact rfl; exact rfl) | ((with_reducible apply Step.load); exact rfl; (focus (decide +kernel)); exact rfl; (focus (exact qm.old _))) | ((with_reducible apply Step.ix1); exact rfl; (focus (assumption)); exact rfl; (focus (decide +kernel)); exact rfl; (focus (omega))) | ((with_reducible apply Step.neq); exact rfl; exact rfl; exact rfl) | ((with_reducible apply Step.pickT); exact rfl; exact rfl; exact rfl; exact rfl; (focus (first | rfl | (simp only [decide_eq_true_eq, decide_eq_false_iff_not, Bool.not_eq_true', Bool.not_eq_false', Bool.not_true, Bool.not_false]; first | assumption | omega)))) | ((with_reducible apply Step.callR fit); exact rfl; exact Try.func71; exact rfl; exact rfl; exact (hp1 _)) | ((with_reducible apply Step.callR fit); exact rfl; exact Try.func71; exact rfl; exact rfl; exact (hp2 _)) | ((with_reducible apply Step.buildS 1); exact rfl; exact rfl; exact (fun _ _ => bs62); exact rfl; (focus (first | (simp only [List.nil_append, List.cons_append, List.set_cons_zero, List.set_cons_succ, iv_set, bv_set, iv_rep, bv_rep]; done) | (simp only [List.nil_append, List.cons_append, List.set_cons_zero, List.set_cons_succ, iv_set, bv_set, iv_rep, bv_rep]; rfl) | rfl))) | ((with_reducible apply Step.build); exact rfl; exact bl67; exact rfl)) | (with_reducible refine AWo.nil ?_) | ((with_reducible apply AW.seq)) | ((with_reducible apply Then.n)) | ((with_reducible apply AW.regL)) | ((with_reducible apply AW.condT); exact rfl; (focus (rfl)))))
              ((with_reducible apply Step.appG (k := 2)); exact rfl; exact rfl; exact rfl; exact el62; exact un62; exact rfl; exact rfl; exact rfl; exact hln; exact rfl; exact rfl; exact rfl; (focus (omega)); exact rfl; (focus (first | (simp only [List.nil_append, List.cons_append, List.set_cons_zero, List.set_cons_succ, iv_set, bv_set, iv_rep, bv_rep]; done) | (simp only [List.nil_append, List.cons_append, List.set_cons_zero, List.set_cons_succ, iv_set, bv_set, iv_rep, bv_rep]; rfl) | rfl)))
              (repeat (first | (with_reducible refine AWo.cons ?_) | ((with_reducible refine Step.id ?_); first | ((with_reducible apply Step.move); exact rfl; exact rfl) | ((with_reducible apply Step.assign); exact rfl; exact rfl) | ((with_reducible apply Step.add); exact rfl; exact rfl; (focus (omega)); exact rfl)) | (with_reducible refine AWo.nil ?_) | ((with_reducible apply Then.n)) | ((with_reducible apply AW.regL)) | ((with_reducible apply InBlk.n))))
              refine ⟨_, [(3, mv), (10, .pointer (some ⟨a, 0, none⟩)), (14, .slice (some ⟨m1.length + 0, 0, none⟩) (X1.length + 1) (X1.length + 1)), (15, .int .i64 (i : Nat)), (17, .int .i64 mine), (41, cv), (42, .int .i64 (M.length : Nat)), (43, .int .i64 (i : Nat)), (60, w), (61, .int .i64 (r : Nat)), (62, .int .i64 ((j + 1 : Nat) : Int))], [some { cells := prC X1 ++ [.int .i64 (i : Nat), .int .i64 (j : Nat)], kind := .grow, size := 2 }], by omega, (Back.mv 0 2 rfl rfl rfl rfl (by intro j b hj h; rcases j with _ | _ | _ | _ | _ | _ | j <;> simp_all) (by repeat (first | exact CellsOk.nil | refine CellsOk.cons (by assumption) ?_)) (by repeat (first | exact trivial | (refine And.intro ⟨_, rfl, by (first | exact Low.ne (by assumption) (by simp) | exact .int _ _ | exact Ren.slice_mv (by first | (simp; done) | omega | (simp; omega)) | exact Ren.of_sl_ne (by assumption) (by first | omega | (simp; omega)) (by first | omega | (simp; omega)))⟩ ?_)))), j + 1, rfl, by omega, ?_, ?_⟩
              · rw [hX2, prC_snoc, gb_pos (by simp)]
              · rw [hX2, gv_pos (by simp), List.length_append]; rfl
      · obtain rfl : j = r := by omega
        (repeat (first | (with_reducible refine AWo.cons ?_) | ((with_reducible refine Step.id ?_); first | ((with_reducible apply Step.move); exact rfl; exact rfl) | ((with_reducible apply Step.add); exact rfl; exact rfl; (focus (omega)); exact rfl) | ((with_reducible apply Step.lss); exact rfl; exact rfl; exact rfl)) | (with_reducible refine AWo.nil ?_) | ((with_reducible apply AW.seq)) | ((with_reducible apply Then.n)) | ((with_reducible apply AW.regL)) | ((with_reducible apply AW.exit)) | ((with_reducible apply InBlk.n)) | ((with_reducible apply InBlk.hit)) | ((with_reducible apply Then.e)) | ((with_reducible apply AW.condF); exact rfl; (focus ((simp only [decide_eq_true_eq, decide_eq_false_iff_not, Bool.not_eq_true', Bool.not_eq_false', Bool.not_true, Bool.not_false]; first | assumption | omega))))))
        exact ⟨_, [(3, mv), (10, .pointer (some ⟨a, 0, none⟩)), (14, gv (m1.length + 0) (X0 ++ bkJ (bkB c M) i j).length), (41, cv), (42, .int .i64 (M.length : Nat)), (43, .int .i64 ((i + 1 : Nat) : Int))], [gb (prC (X0 ++ bkJ (bkB c M) i j)) 2], by omega, (Or.inl ⟨rfl, (by repeat (first | exact trivial | (refine And.intro rfl ?_)))⟩), i + 1, rfl, by omega, by rw [hX1], by rw [hX1]⟩
    · obtain rfl : i = M.length := by omega
      (repeat (first | (with_reducible refine AWo.cons ?_) | ((with_reducible refine Step.id ?_); first | ((with_reducible apply Step.move); exact rfl; exact rfl) | ((with_reducible apply Step.assign); exact rfl; exact rfl) | ((with_reducible apply Step.lss); exact rfl; exact rfl; exact rfl)) | (with_reducible refine AWo.nil ?_) | ((with_reducible apply AW.seq)) | ((with_reducible apply Then.n)) | ((with_reducible apply AW.regL)) | ((with_reducible apply AW.exit)) | ((with_reducible apply InBlk.hit)) | ((with_reducible apply Then.e)) | ((with_reducible apply AW.condF); exact rfl; (focus ((simp only [decide_eq_true_eq, decide_eq_false_iff_not, Bool.not_eq_true', Bool.not_eq_false', Bool.not_true, Bool.not_false]; first | assumption | omega))))))
      (refine AW.ret ?_; (repeat (first | refine Then.r ?_ | refine InBlk.r ?_)))
      obtain ⟨N, rfl⟩ := hMN
      exact ⟨_, rfl, _, by rw [List.append_assoc], _, rfl, prs_new (k := 0) rfl (by simp) rfl⟩
  · rw [if_neg he]
    (repeat (first | (with_reducible refine AWo.cons ?_) | ((with_reducible refine Step.id ?_); first | ((with_reducible apply Step.move); exact rfl; exact rfl) | ((with_reducible apply Step.assign); exact rfl; exact rfl) | ((with_reducible apply Step.ptrNot); exact rfl; exact rfl; exact un77; exact rfl) | ((with_reducible apply Step.neq); exact rfl; exact rfl; exact rfl) | ((with_reducible apply Step.extract); exact rfl; exact rfl; exact rfl) | ((with_reducible apply Step.callR fit); exact rfl; exact Try.func68; exact rfl; exact rfl; exact (hpr _))) | (with_reducible refine AWo.nil ?_) | ((with_reducible apply AW.seq)) | ((with_reducible apply Then.n)) | ((with_reducible apply AW.regL)) | ((with_reducible apply AW.skip)) | ((with_reducible apply AW.condT); exact rfl; (focus ((simp only [decide_eq_true_eq, decide_eq_false_iff_not, Bool.not_eq_true', Bool.not_eq_false', Bool.not_true, Bool.not_false]; first | assumption | omega)))) | ((with_reducible apply AW.condF); exact rfl; (focus (rfl)))))
    (refine AW.ret ?_; (repeat (first | refine Then.r ?_ | refine InBlk.r ?_)))
    obtain ⟨N, rfl⟩ := hMN
    exact ⟨_, rfl, N, by rw [List.append_nil], _, rfl, by rw [List.append_nil]; exact prs_nil hpos⟩
end Go.Proofs.Ytajpngnphbdnnaa.Abs
namespace Go.Proofs.Ytajpngnphbdnnaa.Abs
set_option linter.unusedSimpArgs false
set_option linter.unusedVariables false
open Go.Proofs
open Hung
/-- The right glove that a left one prefers among the first j that it may still ask; -1. -/
def bstF (a : Nat → Bool) (ci : Nat → Int) : Nat → Int
  | 0 => -1
  | j + 1 => if a j = false ∧ 0 ≤ ci j ∧ (bstF a ci j < 0 ∨ ci j < ci (bstF a ci j).toNat) then (j : Nat) else bstF a ci j
theorem bstF_bd (a : Nat → Bool) (ci : Nat → Int) : ∀ j, -1 ≤ bstF a ci j ∧ bstF a ci j < (j : Nat) ∧ (0 ≤ bstF a ci j → a (bstF a ci j).toNat = false ∧ 0 ≤ ci (bstF a ci j).toNat)
  | 0 => by simp [bstF]
  | j + 1 => by
    obtain ⟨h1, h2, h3⟩ := bstF_bd a ci j
    simp only [bstF]
    split
    · rename_i h
      refine ⟨by omega, by omega, fun _ => ?_⟩
      simp only [Int.toNat_natCast]
      exact ⟨h.1, h.2.1⟩
    · exact ⟨h1, by omega, h3⟩
/-- The order in which a glove prefers others. -/
def kl (ci : Nat → Int) (j k : Nat) : Prop := ci j < ci k ∨ ci j = ci k ∧ j < k
theorem bstF_min (a : Nat → Bool) (ci : Nat → Int) : ∀ (n j : Nat), j < n → a j = false → 0 ≤ ci j → 0 ≤ bstF a ci n ∧ ¬ kl ci j (bstF a ci n).toNat
  | 0, j, h, _, _ => by omega
  | n + 1, j, h, ha, hc => by
    obtain ⟨b1, b2, b3⟩ := bstF_bd a ci n
    simp only [bstF]
    split
    · rename_i hs
      obtain ⟨s1, s2, s3⟩ := hs
      refine ⟨by omega, ?_⟩
      simp only [Int.toNat_natCast]
      intro hk
      by_cases e : j = n
      · subst e; rcases hk with hk | hk <;> omega
      · obtain ⟨i1, i2⟩ := bstF_min a ci n j (by omega) ha hc
        apply i2
        rcases s3 with s3 | s3
        · omega
        · rcases hk with hk | hk
          · exact .inl (by omega)
          · exact .inl (by omega)
    · rename_i hs
      by_cases e : j = n
      · subst e
        have hb : ¬ (bstF a ci j < 0 ∨ ci j < ci (bstF a ci j).toNat) := fun h => hs ⟨ha, hc, h⟩
        refine ⟨by omega, fun hk => ?_⟩
        rcases hk with hk | hk
        · exact hb (.inr hk)
        · omega
      · exact bstF_min a ci n j (by omega) ha hc
structure GS where
  A : Nat → Nat → Bool
  mt : Nat → Int
  st : List Nat
def up2 (A : Nat → Nat → Bool) (i j : Nat) : Nat → Nat → Bool := up A i (up (A i) j true)
theorem up2_same (A : Nat → Nat → Bool) (i j : Nat) : up2 A i j i j = true := by unfold up2; rw [up_same, up_same]
theorem up2_row (A : Nat → Nat → Bool) (i j : Nat) : up2 A i j i = up (A i) j true := up_same _ _ _
theorem up2_ne {A : Nat → Nat → Bool} {i j x y : Nat} (h : ¬ (x = i ∧ y = j)) : up2 A i j x y = A x y := by
  unfold up2
  by_cases e : x = i
  · subst e; rw [up_same, up_ne _ _ fun e => h ⟨rfl, e⟩]
  · rw [up_ne _ _ e]
/-- One glove asks. -/
def gsTo (c : Nat → Nat → Int) (r : Nat) (A : Nat → Nat → Bool) (mt : Nat → Int) (S : List Nat) (i : Nat) : GS :=
  if bstF (A i) (c i) r < 0 then ⟨A, mt, S⟩
  else if 0 ≤ mt (bstF (A i) (c i) r).toNat ∧ prf (c i (bstF (A i) (c i) r).toNat) i (c (mt (bstF (A i) (c i) r).toNat).toNat (bstF (A i) (c i) r).toNat) (mt (bstF (A i) (c i) r).toNat) = false then ⟨up2 A i (bstF (A i) (c i) r).toNat, mt, S ++ [i]⟩
  else ⟨up2 A i (bstF (A i) (c i) r).toNat, up mt (bstF (A i) (c i) r).toNat (i : Nat), S ++ (if 0 ≤ mt (bstF (A i) (c i) r).toNat then [(mt (bstF (A i) (c i) r).toNat).toNat] else [])⟩
def gsRun (c : Nat → Nat → Int) (r : Nat) : Nat → GS → GS
  | 0, s => s
  | f + 1, s => match s.st.getLast? with
    | none => s
    | some i => gsRun c r f (gsTo c r s.A s.mt s.st.dropLast i)
def sumU (A : Nat → Nat → Bool) (r : Nat) : Nat → Nat
  | 0 => 0
  | l + 1 => sumU A r l + unN (A l) r
theorem sumU_congr {A B : Nat → Nat → Bool} {r : Nat} : ∀ {l : Nat}, (∀ i, i < l → A i = B i) → sumU A r l = sumU B r l
  | 0, _ => rfl
  | l + 1, h => by simp only [sumU]; rw [sumU_congr fun i hi => h i (by omega), h l (by omega)]
theorem sumU_up {A : Nat → Nat → Bool} {r i j : Nat} (hj : j < r) (ha : A i j = false) : ∀ {l : Nat}, i < l → sumU A r l = sumU (up2 A i j) r l + 1
  | 0, h => by omega
  | l + 1, h => by
    simp only [sumU]
    by_cases e : i = l
    · subst e
      rw [sumU_congr (B := up2 A i j) fun x hx => by unfold up2; rw [up_ne _ _ (by omega)], up2_row, unN_up hj ha]; omega
    · rw [sumU_up hj ha (by omega), show up2 A i j l = A l from by unfold up2; rw [up_ne _ _ (Ne.symm e)]]; omega
/-- What is left to be done at most. -/
def gsM (l r : Nat) (s : GS) : Nat := sumU s.A r l + s.st.length
/-- What the steps keep. -/
structure GsI (c : Nat → Nat → Int) (l r : Nat) (s : GS) : Prop where
  m1 : ∀ j, s.mt j = -1 ∨ ∃ i : Nat, s.mt j = (i : Nat) ∧ i < l ∧ j < r ∧ 0 ≤ c i j ∧ s.A i j = true
  inj : ∀ j j', 0 ≤ s.mt j → s.mt j = s.mt j' → j = j'
  fr : ∀ i ∈ s.st, i < l ∧ ∀ j, s.mt j ≠ (i : Nat)
  nd : s.st.Nodup
  asd : ∀ i j, s.A i j = true → j < r ∧ 0 ≤ c i j ∧ 0 ≤ s.mt j ∧ (s.mt j = (i : Nat) ∨ kl (fun x => c x j) (s.mt j).toNat i)
  ord : ∀ i j k, s.A i j = true → k < r → 0 ≤ c i k → kl (c i) k j → s.A i k = true
  ex : ∀ i, i < l → i ∈ s.st ∨ (∃ j, s.mt j = (i : Nat)) ∨ ∀ j, j < r → 0 ≤ c i j → s.A i j = true
theorem GsI.of {c : Nat → Nat → Int} {l r : Nat} {A : Nat → Nat → Bool} {mt : Nat → Int} {st : List Nat} (m1 : ∀ j, mt j = -1 ∨ ∃ i : Nat, mt j = (i : Nat) ∧ i < l ∧ j < r ∧ 0 ≤ c i j ∧ A i j = true) (inj : ∀ j j', 0 ≤ mt j → mt j = mt j' → j = j') (fr : ∀ i ∈ st, i < l ∧ ∀ j, mt j ≠ (i : Nat)) (nd : st.Nodup)
    (asd : ∀ i j, A i j = true → j < r ∧ 0 ≤ c i j ∧ 0 ≤ mt j ∧ (mt j = (i : Nat) ∨ kl (fun x => c x j) (mt j).toNat i)) (ord : ∀ i j k, A i j = true → k < r → 0 ≤ c i k → kl (c i) k j → A i k = true) (ex : ∀ i, i < l → i ∈ st ∨ (∃ j, mt j = (i : Nat)) ∨ ∀ j, j < r → 0 ≤ c i j → A i j = true) : GsI c l r ⟨A, mt, st⟩ :=
  ⟨m1, inj, fr, nd, asd, ord, ex⟩
theorem prf_kl {a b : Int} {i k : Nat} (ha : 0 ≤ a) (hb : 0 ≤ b) : prf a i b k = true ↔ (a < b ∨ a = b ∧ i < k) := by
  unfold prf
  simp only [Bool.and_eq_true, Bool.or_eq_true, decide_eq_true_eq]
  omega
theorem gsi_step {c : Nat → Nat → Int} {l r i : Nat} {A : Nat → Nat → Bool} {mt : Nat → Int} {S : List Nat} (h : GsI c l r ⟨A, mt, S ++ [i]⟩) : GsI c l r (gsTo c r A mt S i) ∧ gsM l r (gsTo c r A mt S i) < gsM l r ⟨A, mt, S ++ [i]⟩ := by
  obtain ⟨m1, inj, fr, nd, asd, ord, ex⟩ := h
  simp only at m1 inj fr nd asd ord ex
  obtain ⟨hil, hif⟩ := fr i (by simp)
  obtain ⟨ndS, _, ndi⟩ := List.nodup_append.1 nd
  have hiS : i ∉ S := fun h => ndi i h i (by simp) rfl
  obtain ⟨b1, b2, b3⟩ := bstF_bd (A i) (c i) r
  have bm := bstF_min (A i) (c i) r
  unfold gsTo
  generalize bstF (A i) (c i) r = b at *
  split
  · rename_i hb
    refine ⟨GsI.of m1 inj (fun x hx => fr x (by simp [hx])) ndS asd ord (fun x hx => ?_), by simp only [gsM, List.length_append, List.length_singleton]; omega⟩
    by_cases e : x = i
    · subst e
      exact .inr (.inr fun j hj hc => by
        cases ha : A x j with
        | true => rfl
        | false => have := (bm j hj ha hc).1; omega)
    · rcases ex x hx with h | h
      · exact .inl (by simpa [e] using h)
      · exact .inr h
  · rename_i hb
    obtain ⟨j, rfl⟩ := Int.eq_ofNat_of_zero_le (show 0 ≤ b by omega)
    simp only [Int.toNat_natCast] at b3 bm ⊢
    obtain ⟨a1, a2⟩ := b3 (by omega)
    have hjr : j < r := by omega
    have hmono : ∀ {x y}, A x y = true → up2 A i j x y = true := fun {x y} h => by
      by_cases e : x = i ∧ y = j
      · obtain ⟨rfl, rfl⟩ := e; exact up2_same _ _ _
      · rw [up2_ne e]; exact h
    have hord : ∀ x y k, up2 A i j x y = true → k < r → 0 ≤ c x k → kl (c x) k y → up2 A i j x k = true := fun x y k h hk hc hkl => by
      by_cases e : x = i ∧ y = j
      · obtain ⟨rfl, rfl⟩ := e
        cases ha : A x k with
        | true => exact hmono ha
        | false => exact absurd hkl (bm k hk ha hc).2
      · rw [up2_ne e] at h
        exact hmono (ord x y k h hk hc hkl)
    have hsum := sumU_up hjr a1 hil
    split
    · rename_i ho
      obtain ⟨o1, o2⟩ := ho
      rcases m1 j with h | ⟨k, k1, k2, _, k4, k5⟩
      · omega
      rw [k1] at o1 o2
      simp only [Int.toNat_natCast] at o2
      have hnp : ¬ (c i j < c k j ∨ c i j = c k j ∧ i < k) := fun h => by rw [(prf_kl a2 k4).2 h] at o2; cases o2
      have hki : k ≠ i := fun e => hif j (by rw [k1, e])
      refine ⟨GsI.of (fun y => ?_) inj fr nd (fun x y hx => ?_) hord (fun x hx => ?_), by simp only [gsM]; omega⟩
      · rcases m1 y with h | ⟨z, z1, z2, z3, z4, z5⟩
        · exact .inl h
        · exact .inr ⟨z, z1, z2, z3, z4, hmono z5⟩
      · by_cases e : x = i ∧ y = j
        · obtain ⟨rfl, rfl⟩ := e
          refine ⟨hjr, a2, by omega, .inr ?_⟩
          rw [k1]
          simp only [Int.toNat_natCast]
          simp only [kl]
          omega
        · rw [up2_ne e] at hx; exact asd x y hx
      · rcases ex x hx with h | h | h
        · exact .inl h
        · exact .inr (.inl h)
        · exact .inr (.inr fun y hy hc => hmono (h y hy hc))
    · rename_i ho
      have hinj2 : ∀ y y', 0 ≤ up mt j ((i : Nat) : Int) y → up mt j ((i : Nat) : Int) y = up mt j ((i : Nat) : Int) y' → y = y' := fun y y' h0 he => by
        by_cases e : y = j
        · by_cases e' : y' = j
          · omega
          · subst e; rw [up_same, up_ne _ _ e'] at he
            exact absurd he.symm (hif y')
        · by_cases e' : y' = j
          · subst e'; rw [up_same, up_ne _ _ e] at he
            exact absurd he (hif y)
          · rw [up_ne _ _ e, up_ne _ _ e'] at he
            rw [up_ne _ _ e] at h0
            exact inj y y' h0 he
      have hm2 : ∀ y, up mt j ((i : Nat) : Int) y = -1 ∨ ∃ z : Nat, up mt j ((i : Nat) : Int) y = (z : Nat) ∧ z < l ∧ y < r ∧ 0 ≤ c z y ∧ up2 A i j z y = true := fun y => by
        by_cases e : y = j
        · subst e; rw [up_same]; exact .inr ⟨i, rfl, hil, hjr, a2, up2_same _ _ _⟩
        · rw [up_ne _ _ e]
          rcases m1 y with h | ⟨z, z1, z2, z3, z4, z5⟩
          · exact .inl h
          · exact .inr ⟨z, z1, z2, z3, z4, hmono z5⟩
      by_cases h0 : 0 ≤ mt j
      · rw [if_pos h0]
        rcases m1 j with h | ⟨k, k1, k2, _, k4, k5⟩
        · omega
        have hki : k ≠ i := fun e => hif j (by rw [k1, e])
        rw [k1] at ho ⊢
        simp only [Int.toNat_natCast] at ho ⊢
        have hp : prf (c i j) i (c k j) k = true := by
          cases e : prf (c i j) i (c k j) k with
          | true => rfl
          | false => exact absurd ⟨by omega, e⟩ ho
        have hkl := (prf_kl a2 k4).1 hp
        have hkS : k ∉ S := fun h => (fr k (by simp [h])).2 j k1
        refine ⟨GsI.of hm2 hinj2 (fun x hx => ?_) ?_ (fun x y hx => ?_) hord (fun x hx => ?_), by simp only [gsM, List.length_append, List.length_singleton]; omega⟩
        · rcases List.mem_append.1 hx with hx | hx
          · obtain ⟨q1, q2⟩ := fr x (by simp [hx])
            refine ⟨q1, fun y => ?_⟩
            by_cases e : y = j
            · subst e; rw [up_same]; exact fun e => hiS (by rw [show i = x by omega]; exact hx)
            · rw [up_ne _ _ e]; exact q2 y
          · rw [List.mem_singleton] at hx; subst hx
            refine ⟨k2, fun y => ?_⟩
            by_cases e : y = j
            · subst e; rw [up_same]; omega
            · rw [up_ne _ _ e]
              intro he
              exact e (inj y j (by omega) (by rw [he, k1]))
        · rw [List.nodup_append]
          exact ⟨ndS, by simp, fun a ha b hb e => by rw [List.mem_singleton] at hb; subst hb; subst e; exact hkS ha⟩
        · by_cases e : y = j
          · subst e
            rw [up_same]
            by_cases ex' : x = i
            · subst ex'; exact ⟨hjr, a2, by omega, .inl rfl⟩
            · rw [up2_ne fun h => ex' h.1] at hx
              obtain ⟨q1, q2, q3, q4⟩ := asd x y hx
              refine ⟨q1, q2, by omega, .inr ?_⟩
              simp only [Int.toNat_natCast]
              rw [k1] at q4
              simp only [Int.toNat_natCast] at q4
              rcases q4 with q4 | q4
              · have : x = k := by omega
                subst this
                exact hkl
              · simp only [kl] at q4 ⊢
                omega
          · rw [up2_ne fun h => e h.2] at hx
            rw [up_ne _ _ e]; exact asd x y hx
        · by_cases exi : x = i
          · subst exi; exact .inr (.inl ⟨j, up_same _ _ _⟩)
          · rcases ex x hx with h | ⟨y, hy⟩ | h
            · exact .inl (by simp at h; simp [h.resolve_right exi])
            · by_cases e : y = j
              · subst e
                exact .inl (by rw [k1] at hy; simp; right; omega)
              · exact .inr (.inl ⟨y, by rw [up_ne _ _ e]; exact hy⟩)
            · exact .inr (.inr fun y hy hc => hmono (h y hy hc))
      · rw [if_neg h0, List.append_nil]
        refine ⟨GsI.of hm2 hinj2 (fun x hx => ?_) ndS (fun x y hx => ?_) hord (fun x hx => ?_), by simp only [gsM, List.length_append, List.length_singleton]; omega⟩
        · obtain ⟨q1, q2⟩ := fr x (by simp [hx])
          refine ⟨q1, fun y => ?_⟩
          by_cases e : y = j
          · subst e; rw [up_same]; exact fun e => hiS (by rw [show i = x by omega]; exact hx)
          · rw [up_ne _ _ e]; exact q2 y
        · by_cases e : y = j
          · subst e
            rw [up_same]
            by_cases ex' : x = i
            · subst ex'; exact ⟨hjr, a2, by omega, .inl rfl⟩
            · rw [up2_ne fun h => ex' h.1] at hx
              obtain ⟨_, _, q3, _⟩ := asd x y hx
              omega
          · rw [up2_ne fun h => e h.2] at hx
            rw [up_ne _ _ e]; exact asd x y hx
        · by_cases exi : x = i
          · subst exi; exact .inr (.inl ⟨j, up_same _ _ _⟩)
          · rcases ex x hx with h | ⟨y, hy⟩ | h
            · exact .inl (by simp at h; exact h.resolve_right exi)
            · by_cases e : y = j
              · subst e; omega
              · exact .inr (.inl ⟨y, by rw [up_ne _ _ e]; exact hy⟩)
            · exact .inr (.inr fun y hy hc => hmono (h y hy hc))
/-- The beginning: nobody has asked; the last glove asks first. -/
def gs0 (l : Nat) : GS := ⟨fun _ _ => false, fun _ => -1, List.range l⟩
theorem gsi0 (c : Nat → Nat → Int) (l r : Nat) : GsI c l r (gs0 l) :=
  GsI.of (fun _ => .inl rfl) (fun _ _ h => absurd h (by simp)) (fun i hi => ⟨List.mem_range.1 hi, fun j => by omega⟩) List.nodup_range (fun _ _ h => by cases h) (fun _ _ _ h => by cases h) (fun i hi => .inl (List.mem_range.2 hi))
theorem gsRun_end {c : Nat → Nat → Int} {l r : Nat} : ∀ {f : Nat} {s : GS}, GsI c l r s → gsM l r s ≤ f → GsI c l r (gsRun c r f s) ∧ (gsRun c r f s).st = []
  | 0, s, h, hf => ⟨h, List.eq_nil_of_length_eq_zero (show s.st.length = 0 by unfold gsM at hf; omega)⟩
  | f + 1, s, h, hf => by
    simp only [gsRun]
    cases hl : s.st.getLast? with
    | none => exact ⟨h, List.getLast?_eq_none_iff.1 hl⟩
    | some i =>
      obtain ⟨S, hS⟩ : ∃ S, s.st = S ++ [i] := by
        obtain ⟨A, mt, st⟩ := s
        exact List.getLast?_eq_some_iff.1 hl
      obtain ⟨A, mt, st⟩ := s
      simp only at hS ⊢
      subst hS
      rw [List.dropLast_concat]
      obtain ⟨h1, h2⟩ := gsi_step h
      exact gsRun_end h1 (by omega)
/-- The partner of a left glove. -/
def outF (mt : Nat → Int) (r i : Nat) : Int := idxF (fun j => decide (mt j = ((i : Nat) : Int))) r
end Go.Proofs.Ytajpngnphbdnnaa.Abs
namespace Go.Proofs.Ytajpngnphbdnnaa.Abs
set_option linter.unusedSimpArgs false
set_option linter.unusedVariables false
open Go.Proofs
open Hung
theorem outF_cases {mt : Nat → Int} {r i : Nat} : (outF mt r i = -1 ∧ ∀ j, j < r → mt j ≠ (i : Nat)) ∨ ∃ j : Nat, j < r ∧ outF mt r i = (j : Nat) ∧ mt j = (i : Nat) := by
  unfold outF
  obtain ⟨h1, h2, h3⟩ := idxF_bd (fun j => decide (mt j = ((i : Nat) : Int))) r
  by_cases h0 : 0 ≤ idxF (fun j => decide (mt j = ((i : Nat) : Int))) r
  · exact .inr ⟨(idxF (fun j => decide (mt j = ((i : Nat) : Int))) r).toNat, by omega, by omega, by simpa using h3 h0⟩
  · obtain ⟨e1, e2⟩ := idxF_neg' (pr := fun j => decide (mt j = ((i : Nat) : Int))) (n := r) (by omega)
    exact .inl ⟨e1, fun j hj => by simpa using e2 j hj⟩
/-- A row that weighs as a pairing. -/
theorem wgS_ok {c : Nat → Nat → Int} {r : Nat} {M : List Int} : ∀ {k : Nat}, (∀ i, i < k → M.getD i 0 = -1 ∨ ∃ j : Nat, M.getD i 0 = (j : Nat) ∧ j < r ∧ 0 ≤ c i j) → (∀ i i', i < k → i' < k → 0 ≤ M.getD i 0 → M.getD i 0 = M.getD i' 0 → i = i') →
    ∃ tk s q, wgS c r M k = some (tk, s, q) ∧ s = (cN (fun i => decide (0 ≤ M.getD i 0)) k : Nat)
  | 0, _, _ => ⟨_, _, _, rfl, rfl⟩
  | k + 1, h1, h2 => by
    obtain ⟨tk, s, q, e1, e2⟩ := wgS_ok (k := k) (fun i hi => h1 i (by omega)) (fun i i' hi hi' => h2 i i' (by omega) (by omega))
    obtain ⟨v1, _, v3⟩ := wgS_val e1
    simp only [wgS, e1, cN]
    rcases h1 k (by omega) with h | ⟨j, j1, j2, j3⟩
    · rw [if_pos h]
      refine ⟨_, _, _, rfl, ?_⟩
      rw [if_neg (by rw [h]; simp), e2]; rfl
    · have htk : tk j = false := by
        cases e : tk j with
        | false => rfl
        | true =>
          obtain ⟨i, i1, i2⟩ := v3 j e
          have := h2 i k (by omega) (by omega) (by omega) (by rw [i2, j1])
          omega
      rw [if_neg (by omega), if_neg (by rw [j1]; simp only [Int.toNat_natCast]; rw [htk]; simp; omega)]
      refine ⟨_, _, _, rfl, ?_⟩
      rw [if_pos (by rw [j1]; simp), e2, Int.natCast_add]; rfl
structure Fin (c : Nat → Nat → Int) (l r : Nat) (s : GS) : Prop extends GsI c l r s where
  emp : s.st = []
section
variable {c : Nat → Nat → Int} {l r : Nat} {s : GS}
theorem Fin.out (h : Fin c l r s) {i : Nat} (hi : i < l) : (tab (outF s.mt r) l).getD i 0 = outF s.mt r i := tab_get _ hi
/-- Each allowed pair that is not paired: one of both has a better partner. -/
theorem Fin.stb (h : Fin c l r s) {i j : Nat} (hi : i < l) (hj : j < r) (hc : 0 ≤ c i j) : (0 ≤ s.mt j ∧ (s.mt j = (i : Nat) ∨ kl (fun x => c x j) (s.mt j).toNat i)) ∨ ∃ k, k < r ∧ s.mt k = (i : Nat) ∧ kl (c i) k j := by
  cases ha : s.A i j with
  | true =>
    obtain ⟨_, _, h1, h2⟩ := h.asd i j ha
    exact .inl ⟨h1, h2⟩
  | false =>
    rcases h.ex i hi with h1 | ⟨k, hk⟩ | h1
    · rw [h.emp] at h1; cases h1
    · rcases h.m1 k with h2 | ⟨i', h2, h3, h4, h5, h6⟩
      · omega
      · have : i' = i := by omega
        subst this
        refine .inr ⟨k, h4, hk, ?_⟩
        apply Classical.byContradiction
        intro hn
        by_cases e : j = k
        · subst e; rw [h6] at ha; cases ha
        · have : kl (c i') j k := by
            unfold kl at hn ⊢
            omega
          rw [h.ord i' k j h6 hj hc this] at ha; cases ha
    · rw [h1 j hj hc] at ha; cases ha
theorem Fin.ptn (h : Fin c l r s) {j : Nat} (hj : j < r) : ptn (tab (outF s.mt r) l) j = s.mt j := by
  unfold Abs.ptn
  rw [tab_len]
  rcases h.m1 j with h1 | ⟨i, h1, h2, h3, h4, h5⟩
  · rw [h1]
    refine idxF_miss fun k hk => decide_eq_false fun he => ?_
    rw [tab_get _ hk] at he
    rcases outF_cases (mt := s.mt) (r := r) (i := k) with ⟨e1, _⟩ | ⟨y, y1, y2, y3⟩
    · omega
    · have : y = j := by omega
      subst this; omega
  · rw [h1]
    refine idxF_hit h2 (fun k hk => decide_eq_false fun he => ?_) (decide_eq_true ?_)
    · rw [tab_get _ (by omega)] at he
      rcases outF_cases (mt := s.mt) (r := r) (i := k) with ⟨e1, _⟩ | ⟨y, y1, y2, y3⟩
      · omega
      · have : y = j := by omega
        subst this; omega
    · rw [tab_get _ h2]
      rcases outF_cases (mt := s.mt) (r := r) (i := i) with ⟨_, e2⟩ | ⟨y, y1, y2, y3⟩
      · exact absurd h1 (e2 j hj)
      · have : y = j := h.inj y j (by omega) (by rw [y3, h1])
        rw [y2, this]
/-- No pair blocks it. -/
theorem Fin.noblock (h : Fin c l r s) {i j : Nat} (hi : i < l) (hj : j < r) : bkB c (tab (outF s.mt r) l) i j = false := by
  cases hb : bkB c (tab (outF s.mt r) l) i j with
  | false => rfl
  | true =>
    exfalso
    unfold bkB at hb
    rw [h.ptn hj, tab_get _ hi] at hb
    simp only [Bool.and_eq_true, decide_eq_true_eq] at hb
    obtain ⟨b1, b2, b3⟩ := hb
    have hc : 0 ≤ c i j := by unfold prf at b2; simp only [Bool.and_eq_true, decide_eq_true_eq] at b2; exact b2.1
    rcases h.stb hi hj hc with ⟨s1, s2⟩ | ⟨k, k1, k2, k3⟩
    · rcases h.m1 j with h1 | ⟨x, x1, x2, _, x4, _⟩
      · omega
      · rw [x1] at s2 b3
        simp only [Int.toNat_natCast] at s2
        have hv : vJ c j ((x : Nat) : Int) = c x j := by unfold vJ; rw [if_pos (by omega), Int.toNat_natCast]
        rw [hv, prf_kl hc x4] at b3
        rcases s2 with s2 | s2
        · have : x = i := by omega
          subst this
          rcases outF_cases (mt := s.mt) (r := r) (i := x) with ⟨_, e2⟩ | ⟨y, y1, y2, y3⟩
          · exact e2 j hj x1
          · have : y = j := h.inj y j (by omega) (by rw [y3, x1])
            exact b1 (by rw [y2, this])
        · simp only [kl] at s2; omega
    · rcases outF_cases (mt := s.mt) (r := r) (i := i) with ⟨_, e2⟩ | ⟨y, y1, y2, y3⟩
      · exact e2 k k1 k2
      · have : y = k := h.inj y k (by omega) (by rw [y3, k2])
        subst this
        rcases h.m1 y with h1 | ⟨x, x1, x2, _, x4, _⟩
        · omega
        · have : x = i := by omega
          subst this
          rw [y2] at b2
          have hv : vI (c x) ((y : Nat) : Int) = c x y := by unfold vI; rw [if_pos (by omega), Int.toNat_natCast]
          rw [hv, prf_kl hc x4] at b2
          unfold kl at k3; omega
theorem bkJ_nil {b : Nat → Nat → Bool} {i : Nat} : ∀ {j : Nat}, (∀ k, k < j → b i k = false) → bkJ b i j = []
  | 0, _ => rfl
  | j + 1, h => by simp only [bkJ]; rw [bkJ_nil fun k hk => h k (by omega), h j (by omega)]; rfl
theorem bkJ_nil' {b : Nat → Nat → Bool} {k : Nat} : ∀ {r : Nat}, bkJ b k r = [] → ∀ {j : Nat}, j < r → b k j = false
  | 0, _, j, hj => by omega
  | r + 1, h2, j, hj => by
    simp only [bkJ, List.append_eq_nil_iff] at h2
    by_cases e : j = r
    · subst e
      cases hb : b k j with
      | false => rfl
      | true => rw [hb] at h2; simp at h2
    · exact bkJ_nil' h2.1 (by omega)
theorem bkR_nil {b : Nat → Nat → Bool} {r : Nat} : ∀ {i : Nat}, bkR b r i = [] ↔ ∀ k, k < i → ∀ j, j < r → b k j = false
  | 0 => ⟨fun _ _ h => absurd h (Nat.not_lt_zero _), fun _ => rfl⟩
  | i + 1 => by
    simp only [bkR, List.append_eq_nil_iff]
    rw [bkR_nil]
    constructor
    · rintro ⟨h1, h2⟩ k hk j hj
      by_cases e : k = i
      · subst e
        exact bkJ_nil' h2 hj
      · exact h1 k (by omega) j hj
    · intro h
      exact ⟨fun k hk => h k (by omega), bkJ_nil fun k hk => h i (by omega) k hk⟩
/-- At least half as many pairs as any pairing has. -/
theorem Fin.half (h : Fin c l r s) (hc9 : ∀ i j, c i j ≤ 1000000000) : (kM (okc c 1000000000) r l).2 ≤ 2 * cN (fun j => decide (0 ≤ s.mt j)) r := by
  have hinv := kM_inv (okc c 1000000000) r l
  obtain ⟨m1, m2⟩ := hinv.mch
  rw [hinv.cnt]
  generalize (kM (okc c 1000000000) r l).1 = μ at *
  have hs := cN_split (fun j => decide (0 ≤ μ j)) (fun j => decide (0 ≤ s.mt j)) r
  have h1 : cN (fun j => decide (0 ≤ μ j) && decide (0 ≤ s.mt j)) r ≤ cN (fun j => decide (0 ≤ s.mt j)) r := cN_mono fun j _ hp => by
    simp only [Bool.and_eq_true] at hp; exact hp.2
  have key : ∀ j, j < r → 0 ≤ μ j → ¬ 0 ≤ s.mt j → ∃ k, k < r ∧ s.mt k = μ j := fun j hj h0 hn => by
    obtain ⟨a1, a2⟩ := m1 j hj h0
    unfold okc at a2
    simp only [Bool.and_eq_true, decide_eq_true_eq] at a2
    rcases h.stb (i := (μ j).toNat) (by omega) hj a2.1 with ⟨q, _⟩ | ⟨k, k1, k2, _⟩
    · exact absurd q hn
    · exact ⟨k, k1, by omega⟩
  have h2 : cN (fun j => decide (0 ≤ μ j) && !decide (0 ≤ s.mt j)) r ≤ cN (fun j => decide (0 ≤ s.mt j)) r := by
    refine cN_inj (fun j => if h : j < r ∧ 0 ≤ μ j ∧ ¬ 0 ≤ s.mt j then (key j h.1 h.2.1 h.2.2).choose else 0) (fun j hj hp => ?_) (fun j j' hj hj' hp hp' he => ?_)
    · simp only [Bool.and_eq_true, decide_eq_true_eq, Bool.not_eq_true', decide_eq_false_iff_not] at hp
      rw [dif_pos ⟨hj, hp.1, hp.2⟩]
      obtain ⟨q1, q2⟩ := (key j hj hp.1 hp.2).choose_spec
      exact ⟨q1, by simp only [decide_eq_true_eq]; omega⟩
    · simp only [Bool.and_eq_true, decide_eq_true_eq, Bool.not_eq_true', decide_eq_false_iff_not] at hp hp'
      rw [dif_pos ⟨hj, hp.1, hp.2⟩, dif_pos ⟨hj', hp'.1, hp'.2⟩] at he
      obtain ⟨_, q2⟩ := (key j hj hp.1 hp.2).choose_spec
      obtain ⟨_, q2'⟩ := (key j' hj' hp'.1 hp'.2).choose_spec
      rw [he] at q2
      exact m2 j j' hj hj' hp.1 (by omega)
  omega
end
/-- Another stable pairing. -/
structure StbM (c : Nat → Nat → Int) (l r : Nat) (M : List Int) : Prop where
  len : M.length = l
  v1 : ∀ i, i < l → M.getD i 0 = -1 ∨ ∃ j : Nat, M.getD i 0 = (j : Nat) ∧ j < r ∧ 0 ≤ c i j
  v2 : ∀ i i', i < l → i' < l → 0 ≤ M.getD i 0 → M.getD i 0 = M.getD i' 0 → i = i'
  nb : ∀ i, i < l → ∀ j, j < r → bkB c M i j = false
theorem StbM.no {c : Nat → Nat → Int} {l r : Nat} {M : List Int} (h : StbM c l r M) {x y j : Nat} (hx : x < l) (hy : y < l) (hj : j < r) (hc : 0 ≤ c y j) (hxj : M.getD x 0 = ((j : Nat) : Int)) (hkl : kl (fun z => c z j) y x) (hyp : M.getD y 0 = -1 ∨ ∃ k : Nat, M.getD y 0 = (k : Nat) ∧ kl (c y) j k) : False := by
  have hb := h.nb y hy j hj
  have hcx : 0 ≤ c x j := by
    rcases h.v1 x hx with h1 | ⟨k, k1, _, k3⟩
    · omega
    · have : k = j := by omega
      subst this; exact k3
  have hp : ptn M j = ((x : Nat) : Int) := by
    unfold ptn
    refine idxF_hit (by rw [h.len]; exact hx) (fun k hk => decide_eq_false fun he => ?_) (decide_eq_true hxj)
    have := h.v2 k x (by omega) hx (by omega) (by rw [he, hxj])
    omega
  have hne : M.getD y 0 ≠ ((j : Nat) : Int) := fun e => by
    have := h.v2 y x hy hx (by omega) (by rw [e, hxj])
    subst this
    unfold kl at hkl; omega
  unfold bkB at hb
  rw [hp] at hb
  have hv : vJ c j ((x : Nat) : Int) = c x j := by unfold vJ; rw [if_pos (by omega), Int.toNat_natCast]
  have p2 : prf (c y j) y (c x j) x = true := (prf_kl hc hcx).2 hkl
  have p1 : prf (c y j) j (vI (c y) (M.getD y 0)) (M.getD y 0) = true := by
    rcases hyp with e | ⟨k, k1, k2⟩
    · rw [e]; unfold prf; simp [hc]
    · rcases h.v1 y hy with h1 | ⟨k', q1, _, q3⟩
      · omega
      · have : k' = k := by omega
        subst this
        rw [k1]
        have hv' : vI (c y) ((k' : Nat) : Int) = c y k' := by unfold vI; rw [if_pos (by omega), Int.toNat_natCast]
        rw [hv']
        exact (prf_kl hc q3).2 k2
  rw [hv, p2, p1, decide_eq_true hne] at hb
  cases hb
/-- Nobody is refused by a glove that is its partner in another stable pairing. -/
def Rej (M : List Int) (s : GS) : Prop := ∀ i j, s.A i j = true → s.mt j ≠ (i : Nat) → M.getD i 0 ≠ ((j : Nat) : Int)
theorem rej_step {c : Nat → Nat → Int} {l r i : Nat} {A : Nat → Nat → Bool} {mt : Nat → Int} {S : List Nat} {M : List Int} (hM : StbM c l r M) (h : GsI c l r ⟨A, mt, S ++ [i]⟩) (hr : Rej M ⟨A, mt, S ++ [i]⟩) : Rej M (gsTo c r A mt S i) := by
  obtain ⟨h', _⟩ := gsi_step h
  obtain ⟨m1, inj, fr, nd, asd, ord, ex⟩ := h
  simp only at m1 inj fr nd asd ord ex
  obtain ⟨hil, hif⟩ := fr i (by simp)
  have hr : ∀ i j, A i j = true → mt j ≠ (i : Nat) → M.getD i 0 ≠ ((j : Nat) : Int) := hr
  obtain ⟨b1, b2, b3⟩ := bstF_bd (A i) (c i) r
  have bm := bstF_min (A i) (c i) r
  -- whoever is engaged to j after the step asked all that it prefers to j before, in vain
  have key : ∀ {x y j : Nat} {s' : GS}, GsI c l r s' → s'.mt j = (y : Nat) → (∀ k, A y k = true → mt k ≠ (y : Nat) → M.getD y 0 ≠ ((k : Nat) : Int)) → (∀ k, k ≠ j → s'.A y k = true → A y k = true ∧ mt k ≠ (y : Nat)) → x < l → kl (fun z => c z j) y x → M.getD x 0 = ((j : Nat) : Int) → False := fun {x y j s'} g hy hry hky hx hkl he => by
    rcases g.m1 j with e | ⟨y', q1, q2, q3, q4, q5⟩
    · omega
    · have : y' = y := by omega
      subst this
      refine hM.no hx q2 q3 q4 he hkl ?_
      rcases hM.v1 y' q2 with e | ⟨k, k1, k2, k3⟩
      · exact .inl e
      · refine .inr ⟨k, k1, ?_⟩
        apply Classical.byContradiction
        intro hn
        by_cases e : k = j
        · subst e
          have := hM.v2 y' x q2 hx (by omega) (by rw [k1, he])
          subst this
          unfold kl at hkl; omega
        · have hk : kl (c y') k j := by unfold kl at hn ⊢; omega
          obtain ⟨z1, z2⟩ := hky k e (g.ord y' j k q5 k2 k3 hk)
          exact hry k z1 z2 k1
  unfold gsTo at h' ⊢
  generalize bstF (A i) (c i) r = b at *
  by_cases hb : b < 0
  · rw [if_pos hb]; exact hr
  · rw [if_neg hb] at h' ⊢
    obtain ⟨j, rfl⟩ := Int.eq_ofNat_of_zero_le (show 0 ≤ b by omega)
    simp only [Int.toNat_natCast] at b3 bm h' ⊢
    obtain ⟨a1, a2⟩ := b3 (by omega)
    split
    · rename_i ho
      rw [if_pos ho] at h'
      obtain ⟨o1, o2⟩ := ho
      rcases m1 j with e | ⟨k, k1, k2, k3, k4, k5⟩
      · omega
      intro x y hx hne
      simp only at hx hne
      by_cases e : x = i ∧ y = j
      · obtain ⟨rfl, rfl⟩ := e
        intro he
        rw [k1] at o2
        simp only [Int.toNat_natCast] at o2
        have hki : k ≠ x := fun e => hif y (by rw [k1, e])
        have hnp : ¬ (c x y < c k y ∨ c x y = c k y ∧ x < k) := fun h => by rw [(prf_kl a2 k4).2 h] at o2; cases o2
        refine key (s' := ⟨up2 A x y, mt, S ++ [x]⟩) h' k1 (fun z hz hn => hr k z hz hn) (fun z hz hA => ?_) hil (by unfold kl; simp only; omega) he
        simp only at hA
        rw [up2_ne (fun h => hki h.1)] at hA
        exact ⟨hA, fun e => hz (inj z y (by omega) (by rw [e, k1]))⟩
      · rw [up2_ne e] at hx
        exact hr x y hx hne
    · rename_i ho
      rw [if_neg ho] at h'
      intro x y hx hne
      simp only at hx hne
      by_cases ey : y = j
      · subst ey
        rw [up_same] at hne
        have hxi : x ≠ i := fun e => hne (by rw [e])
        rw [up2_ne (fun h => hxi h.1)] at hx
        by_cases hmx : mt y = ((x : Nat) : Int)
        · intro he
          have h0 : 0 ≤ mt y := by omega
          rcases m1 y with e | ⟨k, k1, k2, k3, k4, k5⟩
          · omega
          have hkx : k = x := by omega
          subst hkx
          rw [k1] at ho
          simp only [Int.toNat_natCast] at ho
          have hp : prf (c i y) i (c k y) k = true := by
            cases e : prf (c i y) i (c k y) k with
            | true => rfl
            | false => exact absurd ⟨by omega, e⟩ ho
          have hkl := (prf_kl a2 k4).1 hp
          refine key (y := i) (j := y) h' (by simp only [up_same]) (fun z hz hn => hr i z hz hn) (fun z hz hA => ?_) k2 (by unfold kl; exact hkl) he
          simp only at hA
          rw [up2_ne (fun h => hz h.2)] at hA
          exact ⟨hA, hif z⟩
        · exact hr x y hx hmx
      · rw [up_ne _ _ ey] at hne
        rw [up2_ne (fun h => ey h.2)] at hx
        exact hr x y hx hne
theorem rej_run {c : Nat → Nat → Int} {l r : Nat} {M : List Int} (hM : StbM c l r M) : ∀ {f : Nat} {s : GS}, GsI c l r s → Rej M s → Rej M (gsRun c r f s)
  | 0, s, _, h => h
  | f + 1, s, hg, h => by
    simp only [gsRun]
    cases hl : s.st.getLast? with
    | none => exact h
    | some i =>
      obtain ⟨A, mt, st⟩ := s
      obtain ⟨S, hS⟩ : ∃ S, st = S ++ [i] := List.getLast?_eq_some_iff.1 hl
      simp only
      subst hS
      rw [List.dropLast_concat]
      exact rej_run hM (gsi_step hg).1 (rej_step hM hg h)
/-- No left glove prefers its partner in another stable pairing. -/
theorem best_left {c : Nat → Nat → Int} {l r : Nat} {s : GS} {M : List Int} (hM : StbM c l r M) (h : Fin c l r s) (hr : Rej M s) {i j : Nat} (hi : i < l) (hj : M.getD i 0 = ((j : Nat) : Int)) : ∃ k : Nat, outF s.mt r i = (k : Nat) ∧ k < r ∧ ¬ kl (c i) j k := by
  rcases hM.v1 i hi with e | ⟨j', j1, j2, j3⟩
  · omega
  have : j' = j := by omega
  subst this
  have hout : ∀ k, s.mt k = (i : Nat) → ∃ k' : Nat, outF s.mt r i = (k' : Nat) ∧ k' < r ∧ s.mt k' = (i : Nat) ∧ k' = k := fun k hk => by
    rcases outF_cases (mt := s.mt) (r := r) (i := i) with ⟨_, e2⟩ | ⟨y, y1, y2, y3⟩
    · rcases h.m1 k with h1 | ⟨x, x1, x2, x3, _⟩
      · omega
      · exact absurd hk (e2 k x3)
    · exact ⟨y, y2, y1, y3, h.inj y k (by omega) (by rw [y3, hk])⟩
  cases ha : s.A i j' with
  | true =>
    have hm : s.mt j' = (i : Nat) := by
      apply Classical.byContradiction
      intro hn
      exact hr i j' ha hn hj
    obtain ⟨k, k1, k2, k3, k4⟩ := hout j' hm
    exact ⟨k, k1, k2, by subst k4; unfold kl; omega⟩
  | false =>
    rcases h.ex i hi with h1 | ⟨k, hk⟩ | h1
    · rw [h.emp] at h1; cases h1
    · obtain ⟨k', k1, k2, k3, k4⟩ := hout k hk
      subst k4
      refine ⟨k', k1, k2, fun hkl => ?_⟩
      rcases h.m1 k' with h1 | ⟨x, x1, x2, x3, x4, x5⟩
      · omega
      · have : x = i := by omega
        subst this
        rw [h.ord x k' j' x5 j2 j3 hkl] at ha; cases ha
    · rw [h1 j' j2 j3] at ha; cases ha
end Go.Proofs.Ytajpngnphbdnnaa.Abs
