/- Proved here: what the proof of CutMore rests on, part 4 of 4. Conditions: those that each theorem names. -/
import Derived.Test.YtibhgdglbillaaaDoorCutMoreK3
namespace Go.Proofs.YtibhgdglbillaaaDoor.Abs
set_option linter.unusedSimpArgs false
set_option linter.unusedVariables false
open Go.RowKit
open Go.Proofs.YtibhgdglbillaaaDoor.Sim
open Go.Proofs
def kvc (l : List Kd) : List Value := l.flatMap Kd.cells
theorem kvc_len (l : List Kd) : (kvc l).length = l.length * 5 := by
  induction l with
  | nil => rfl
  | cons k l ih =>
    have : kvc (k :: l) = k.cells ++ kvc l := rfl
    rw [this, List.length_append, ih]
    simp [Kd.cells]
    omega
theorem kvc_snoc (l : List Kd) (k : Kd) : kvc (l ++ [k]) = kvc l ++ k.cells := by simp [kvc]
theorem kvc_get : ∀ (l : List Kd) (i : Nat), i < l.length → ∀ (j : Nat) (v : Value), (l.getD i default).cells[j]? = some v → (kvc l)[i * 5 + j]? = some v
  | [], i, hi, _, _, _ => by simp at hi
  | k :: l, 0, _, j, v, hj => by
    have : kvc (k :: l) = k.cells ++ kvc l := rfl
    change k.cells[j]? = some v at hj
    rw [this, Nat.zero_mul, Nat.zero_add, List.getElem?_append_left (List.getElem?_eq_some_iff.1 hj).1]
    exact hj
  | k :: l, i + 1, hi, j, v, hj => by
    have e : kvc (k :: l) = k.cells ++ kvc l := rfl
    have hl : k.cells.length = 5 := rfl
    rw [e, List.getElem?_append_right (by omega), hl, show (i + 1) * 5 + j - 5 = i * 5 + j by omega]
    exact kvc_get l i (by simpa using hi) j v hj
theorem g0_kvc (l : List Kd) : ∀ v ∈ kvc l, g0 v = true := fun v hv => by
  simp only [kvc, List.mem_flatMap] at hv
  obtain ⟨k, _, hk⟩ := hv
  simp [Kd.cells] at hk
  rcases hk with rfl | rfl | rfl | rfl | rfl <;> rfl
theorem kvc_one (l : List Kd) : (kvc l).all (·.oneCell') = true := by
  rw [List.all_eq_true]
  intro v hv
  simp only [kvc, List.mem_flatMap] at hv
  obtain ⟨k, _, hk⟩ := hv
  simp [Kd.cells] at hk
  rcases hk with rfl | rfl | rfl | rfl | rfl <;> rfl
theorem good_take (B : Brd) (K : List Kd) : goodB B (K.take 14) = goodB B K := by
  rcases Nat.lt_or_ge 14 K.length with h | h
  · have h1 : kindsB K = false := by simp [kindsB]; omega
    have h2 : kindsB (K.take 14) = false := by simp [kindsB]; omega
    simp [goodB, h1, h2]
  · rw [List.take_of_length_le h]
theorem good_len {B : Brd} {K : List Kd} (h : goodB B K = true) : K.take 14 = K := by
  simp only [goodB, kindsB, Bool.and_eq_true, decide_eq_true_eq] at h
  exact List.take_of_length_le (by omega)
theorem bl99b {a b c d : Int} {t : Bool} : abuild Tryd.prog 99 [(0, .int .i64 a), (1, .int .i64 b), (2, .int .i64 c), (3, .int .i64 d), (4, .bool t)] = some (.agg #[.int .i64 a, .int .i64 b, .int .i64 c, .int .i64 d, .bool t]) := by kernel_rfl
theorem bs35x {m : AM} {k : Nat} {a b c d : Int} {t : Bool} : abuildSlice Tryd.prog m k 35 1 [(0, .agg #[.int .i64 a, .int .i64 b, .int .i64 c, .int .i64 d, .bool t])] = some (.slice (some ⟨k, 0, none⟩) 1 1, m.set k (some { cells := [.int .i64 a, .int .i64 b, .int .i64 c, .int .i64 d, .bool t] })) := by kernel_rfl
theorem el35 : elemB Tryd.prog 35 = some (99, 5, 40, #[.int .i64 0, .int .i64 0, .int .i64 0, .int .i64 0, .bool false]) := by kernel_rfl
theorem un35 : Tryd.prog.underlying 35 = some (.slice 99) := by kernel_rfl
set_option maxHeartbeats 4000000 in
set_option maxRecDepth 100000 in
theorem of_ok {m : AM} {kv : Value} {K : List Kd} (hk : Kds m kv K) (hlen : K.length ≤ 9223372036854775807) : ACall Tryd.prog 23 #[kv] m (NewG (kvc (K.take 14)) 5 (K.take 14).length m) := by
  obtain ⟨A, O, sl, la, rd⟩ := hk
  obtain ⟨q, c, rfl⟩ := sl.shape
  have wl : Low m.length (.slice q K.length c) := Low.of_sl sl la
  refine ACall.start Tryd.func23 rfl rfl ?_
  (repeat (first | (with_reducible refine AWo.cons ?_) | ((with_reducible refine Step.id ?_); first | ((with_reducible apply Step.move); exact rfl; exact rfl) | ((with_reducible apply Step.assign); exact rfl; exact rfl) | ((with_reducible apply Step.len); exact rfl; (focus (assumption)); (focus (decide +kernel)); exact rfl)) | (with_reducible refine AWo.nil ?_) | ((with_reducible apply AW.seq)) | ((with_reducible apply Then.n)) | ((with_reducible apply AW.regL)) | ((with_reducible apply AW.block))))
  refine AW.loopT (fun n t L => ∃ i : Nat, n = K.length - i ∧ i ≤ K.length ∧ i ≤ 14 ∧ L = [gb (kvc (K.take i)) 5] ∧
    t = [(0, .slice q K.length c), (3, gv (m.length + 0) i), (6, .slice q K.length c), (7, .int .i64 (K.length : Nat)), (8, .int .i64 (i : Nat))])
    ⟨_, _, [none], (Back.padC rfl (by repeat (first | exact trivial | (refine And.intro ⟨rfl, by (first | exact Low.rid (by assumption) (by simp) | exact .int _ _ | exact Ren.of_gv (by first | (simp; done) | omega | (simp; omega)))⟩ ?_))) (by repeat (exact CellsP.nil))), 0, rfl, Nat.zero_le _, Nat.zero_le _, rfl, rfl⟩ ?_
  rintro n t L ⟨i, rfl, hi, hi14, rfl, rfl⟩
  rcases Nat.lt_or_ge i K.length with hlt | hge
  · have rk := rd i hlt
    have hs : K.take (i + 1) = K.take i ++ [K.getD i default] := take_snoc K i default hlt
    generalize K.getD i default = k at rk hs
    obtain ⟨kw, kh, kg, ko, kt⟩ := k
    simp only [Kd.cells] at rk
    by_cases h13 : 13 < i
    · obtain rfl : i = 14 := by omega
      have hg0 := g0_kvc (K.take 14)
      (repeat (first | (with_reducible refine AWo.cons ?_) | ((with_reducible refine Step.id ?_); first | ((with_reducible apply Step.move); exact rfl; exact rfl) | ((with_reducible apply Step.assign); exact rfl; exact rfl) | ((with_reducible apply Step.loadL (n := 5)); exact rfl; (focus (decide +kernel)); (focus (decide +kernel)); exact rfl; (focus (exact RdL.old _ (by assumption))); exact rfl; exact rfl) | ((with_reducible apply Step.ix (s := 5)); exact rfl; (focus (assumption)); exact rfl; (focus (decide +kernel)); exact rfl; (focus (omega))) | ((with_reducible apply Step.lss); exact rfl; exact rfl; exact rfl) | ((with_reducible apply Step.gtr); exact rfl; exact rfl; exact rfl) | ((with_reducible apply Step.alloc 1); exact rfl; exact ze33; exact rfl; (focus (first | (simp only [List.nil_append, List.cons_append, List.set_cons_zero, List.set_cons_succ, iv_set, bv_set, iv_rep, bv_rep]; done) | (simp only [List.nil_append, List.cons_append, List.set_cons_zero, List.set_cons_succ, iv_set, bv_set, iv_rep, bv_rep]; rfl) | rfl))) | ((with_reducible apply Step.storeA (k := 1) (n := 5)); exact rfl; exact rfl; exact rfl; exact rfl; (focus (decide +kernel)); exact rfl; (focus (kernel_rfl)); exact rfl; (focus (first | (simp only [List.nil_append, List.cons_append, List.set_cons_zero, List.set_cons_succ, iv_set, bv_set, iv_rep, bv_rep]; done) | (simp only [List.nil_append, List.cons_append, List.set_cons_zero, List.set_cons_succ, iv_set, bv_set, iv_rep, bv_rep]; rfl) | rfl)))) | (with_reducible refine AWo.nil ?_) | ((with_reducible apply AW.seq)) | ((with_reducible apply Then.n)) | ((with_reducible apply AW.regL)) | ((with_reducible apply AW.block)) | ((with_reducible apply AW.exit)) | ((with_reducible apply InBlk.hit)) | ((with_reducible apply InBlk.miss); exact rfl) | ((with_reducible apply Then.e)) | ((with_reducible apply AW.skip)) | ((with_reducible apply AW.condT); exact rfl; (focus (first | rfl | (simp only [decide_eq_true_eq, decide_eq_false_iff_not, Bool.not_eq_true', Bool.not_eq_false', Bool.not_true, Bool.not_false]; first | assumption | omega))))))
      refine AW.retT (l := [(2, gv (m.length + 0) 14)]) (L1 := [gb (kvc (K.take 14)) 5]) (L2 := [_]) rfl (by repeat (first | exact CellsOk.nil | refine CellsOk.gb (by assumption) ?_)) (by repeat (first | exact trivial | (refine And.intro ⟨rfl, by (exact Ren.of_gv (by first | (simp; done) | omega | (simp; omega)))⟩ ?_))) ?_
      exact ⟨_, rfl, by rw [List.length_take, Nat.min_eq_left (by omega)], rfl⟩
    · have hpl : (kvc (K.take i)).length = i * 5 := by rw [kvc_len, List.length_take]; congr 1; omega
      have hg0 := g0_kvc (K.take (i + 1))
      have hcc : kvc (K.take (i + 1)) = kvc (K.take i) ++ [.int .i64 kw, .int .i64 kh, .int .i64 kg, .int .i64 ko, .bool kt] := by rw [hs, kvc_snoc]; rfl
      rw [hcc] at hg0
      (repeat (first | (with_reducible refine AWo.cons ?_) | ((with_reducible refine Step.id ?_); first | ((with_reducible apply Step.move); exact rfl; exact rfl) | ((with_reducible apply Step.assign); exact rfl; exact rfl) | ((with_reducible apply Step.load); exact rfl; (focus (decide +kernel)); exact rfl; (focus (exact Rd.new rfl rfl))) | ((with_reducible apply Step.loadL (n := 5)); exact rfl; (focus (decide +kernel)); (focus (decide +kernel)); exact rfl; (focus (exact RdL.old _ (by assumption))); exact rfl; exact rfl) | ((with_reducible apply Step.ix (s := 5)); exact rfl; (focus (assumption)); exact rfl; (focus (decide +kernel)); exact rfl; (focus (omega))) | ((with_reducible apply Step.field0); exact rfl; (focus (decide +kernel)); exact rfl) | ((with_reducible apply Step.field (k := 1)); exact rfl; (focus (decide +kernel)); exact rfl) | ((with_reducible apply Step.field (k := 2)); exact rfl; (focus (decide +kernel)); exact rfl) | ((with_reducible apply Step.field (k := 3)); exact rfl; (focus (decide +kernel)); exact rfl) | ((with_reducible apply Step.field (k := 4)); exact rfl; (focus (decide +kernel)); exact rfl) | ((with_reducible apply Step.lss); exact rfl; exact rfl; exact rfl) | ((with_reducible apply Step.gtr); exact rfl; exact rfl; exact rfl) | ((with_reducible apply Step.alloc 1); exact rfl; exact ze33; exact rfl; (focus (first | (simp only [List.nil_append, List.cons_append, List.set_cons_zero, List.set_cons_succ, iv_set, bv_set, iv_rep, bv_rep]; done) | (simp only [List.nil_append, List.cons_append, List.set_cons_zero, List.set_cons_succ, iv_set, bv_set, iv_rep, bv_rep]; rfl) | rfl))) | ((with_reducible apply Step.storeA (k := 1) (n := 5)); exact rfl; exact rfl; exact rfl; exact rfl; (focus (decide +kernel)); exact rfl; (focus (kernel_rfl)); exact rfl; (focus (first | (simp only [List.nil_append, List.cons_append, List.set_cons_zero, List.set_cons_succ, iv_set, bv_set, iv_rep, bv_rep]; done) | (simp only [List.nil_append, List.cons_append, List.set_cons_zero, List.set_cons_succ, iv_set, bv_set, iv_rep, bv_rep]; rfl) | rfl))) | ((with_reducible apply Step.buildS 2); exact rfl; exact rfl; exact (fun _ _ => bs35x); exact rfl; (focus (first | (simp only [List.nil_append, List.cons_append, List.set_cons_zero, List.set_cons_succ, iv_set, bv_set, iv_rep, bv_rep]; done) | (simp only [List.nil_append, List.cons_append, List.set_cons_zero, List.set_cons_succ, iv_set, bv_set, iv_rep, bv_rep]; rfl) | rfl))) | ((with_reducible apply Step.build); exact rfl; exact bl99b; exact rfl)) | (with_reducible refine AWo.nil ?_) | ((with_reducible apply AW.seq)) | ((with_reducible apply Then.n)) | ((with_reducible apply AW.regL)) | ((with_reducible apply AW.block)) | ((with_reducible apply AW.skip)) | ((with_reducible apply AW.condT); exact rfl; (focus ((simp only [decide_eq_true_eq, decide_eq_false_iff_not, Bool.not_eq_true', Bool.not_eq_false', Bool.not_true, Bool.not_false]; first | assumption | omega)))) | ((with_reducible apply AW.condF); exact rfl; (focus ((simp only [decide_eq_true_eq, decide_eq_false_iff_not, Bool.not_eq_true', Bool.not_eq_false', Bool.not_true, Bool.not_false]; first | assumption | omega))))))
      ((with_reducible apply Step.appG (k := 3) (q := 0) (r := 2) (n := i) (xl := 1)); exact rfl; exact rfl; exact rfl; exact el35; exact un35; exact rfl; exact rfl; exact rfl; exact hpl; exact rfl; exact rfl; (focus (kernel_rfl)); (focus (omega)); exact rfl; (focus (first | (simp only [List.nil_append, List.cons_append, List.set_cons_zero, List.set_cons_succ, iv_set, bv_set, iv_rep, bv_rep]; done) | (simp only [List.nil_append, List.cons_append, List.set_cons_zero, List.set_cons_succ, iv_set, bv_set, iv_rep, bv_rep]; rfl) | rfl)))
      (repeat (first | (with_reducible refine AWo.cons ?_) | ((with_reducible refine Step.id ?_); first | ((with_reducible apply Step.move); exact rfl; exact rfl) | ((with_reducible apply Step.assign); exact rfl; exact rfl) | ((with_reducible apply Step.add); exact rfl; exact rfl; (focus (omega)); exact rfl)) | (with_reducible refine AWo.nil ?_) | ((with_reducible apply Then.n)) | ((with_reducible apply AW.regL)) | ((with_reducible apply InBlk.n))))
      exact ⟨_, [(0, .slice q K.length c), (3, .slice (some ⟨m.length + 0, 0, none⟩) (i + 1) (i + 1)), (6, .slice q K.length c), (7, .int .i64 (K.length : Nat)), (8, .int .i64 (i + 1 : Nat))], [some { cells := kvc (K.take i) ++ [.int .i64 kw, .int .i64 kh, .int .i64 kg, .int .i64 ko, .bool kt], kind := .grow, size := 5 }], by omega, (Back.mv 0 3 rfl rfl rfl rfl (by intro j b hj h; rcases j with _ | _ | _ | _ | _ | _ | j <;> simp_all) (by repeat (first | exact CellsOk.nil | refine CellsOk.cons (by assumption) ?_)) (by repeat (first | exact trivial | (refine And.intro ⟨_, rfl, by (first | exact Low.ne (by assumption) (by simp) | exact .int _ _ | exact Ren.slice_mv (by first | (simp; done) | omega | (simp; omega)))⟩ ?_)))), i + 1, rfl, by omega, by omega, by rw [hcc, gb_pos (by simp)], by rw [gv_pos (by omega)]⟩
  · obtain rfl : i = K.length := by omega
    (repeat (first | (with_reducible refine AWo.cons ?_) | ((with_reducible refine Step.id ?_); first | ((with_reducible apply Step.move); exact rfl; exact rfl) | ((with_reducible apply Step.assign); exact rfl; exact rfl) | ((with_reducible apply Step.lss); exact rfl; exact rfl; exact rfl)) | (with_reducible refine AWo.nil ?_) | ((with_reducible apply AW.seq)) | ((with_reducible apply Then.n)) | ((with_reducible apply AW.regL)) | ((with_reducible apply AW.exit)) | ((with_reducible apply InBlk.hit)) | ((with_reducible apply Then.e)) | ((with_reducible apply AW.condF); exact rfl; (focus ((simp only [decide_eq_true_eq, decide_eq_false_iff_not, Bool.not_eq_true', Bool.not_eq_false', Bool.not_true, Bool.not_false]; first | assumption | omega))))))
    (refine AW.retB (l := [(2, _)]) (Or.inl ⟨rfl, (by repeat (first | exact trivial | (refine And.intro rfl ?_)))⟩) ?_; (repeat (first | refine Then.r ?_ | refine InBlk.r ?_)))
    exact ⟨_, rfl, by rw [List.take_of_length_le hi14], by rw [List.take_of_length_le hi14, List.take_of_length_le (Nat.le_refl _)]⟩
end Go.Proofs.YtibhgdglbillaaaDoor.Abs
namespace Go.Proofs.YtibhgdglbillaaaDoor.Abs
set_option linter.unusedSimpArgs false
set_option linter.unusedVariables false
open Go.RowKit
open Go.Proofs.YtibhgdglbillaaaDoor.Sim
open Go.Proofs
section
variable (leaf : R4 → Int) (w h : Nat) (t : List Int)
end
section
variable {leaf : R4 → Int} {w h : Nat} {t : List Int}
end
/-- The memory in which block q holds some cells. -/
def MC (m : AM) (q : Nat) (c : List Value) : AM := m.set q (some { cells := c })
section
variable {m : AM} {q : Nat} {c c' : List Value}
theorem MC.len : (MC m q c).length = m.length := by simp [MC]
theorem MC.at (hq : q < m.length) : (MC m q c)[q]? = some (some { cells := c }) := by unfold MC; exact List.getElem?_set_self hq
theorem MC.ne {a : Nat} (h : a ≠ q) : (MC m q c)[a]? = m[a]? := by unfold MC; exact List.getElem?_set_ne (fun e => h e.symm)
theorem MC.set (hq : q < m.length) (T : AM) : (MC m q c ++ T).set q (some { cells := c' }) = MC m q c' ++ T := by
  unfold MC
  rw [List.set_append_left _ _ (by simpa using hq), List.set_set]
theorem MC.rd {a o : Nat} {x : Value} (h : a ≠ q) (hr : Rd m a o x) : Rd (MC m q c) a o x := by
  obtain ⟨b, h1, h2⟩ := hr
  exact ⟨b, by rw [MC.ne h]; exact h1, h2⟩
theorem MC.ints {v : Value} {l : List Int} {m1 N : AM} (hm : m = m1 ++ N) (hq1 : m1.length ≤ q) (h : Ints m1 v l) : Ints (MC m q c) v l := by
  subst hm
  obtain ⟨N', hN'⟩ := set_high (N := N) hq1 (some { cells := c })
  unfold MC
  rw [hN']
  exact h.old _
/-- A turned block of flat cells: what may be let go behind it. -/
theorem MC.cut (hq : q < m.length) (hg : ∀ x ∈ c', g0 x = true) (T X : AM) (hX : ∀ b, some b ∈ X → isMapK b.kind = false ∧ ∀ x ∈ b.cells, g0 x = true) (n j : Nat) (b : Blk) (h : (MC m q c' ++ (T ++ X))[j]? = some (some b)) :
    (j < (MC m q c ++ T).length ∧ (MC m q c ++ T)[j]? = some (some b)) ∨ (isMapK b.kind = false ∧ ∀ x ∈ b.cells, Ren rid n x x) := by
  have e : (MC m q c').length = (MC m q c).length := by rw [MC.len, MC.len]
  rcases Nat.lt_or_ge j (MC m q c').length with hj | hj
  · rw [List.getElem?_append_left hj] at h
    by_cases ej : j = q
    · subst ej
      rw [MC.at hq] at h
      simp only [Option.some.injEq] at h
      subst h
      exact .inr ⟨rfl, fun x hx => Ren.of_g0 (hg x hx)⟩
    · rw [MC.ne ej] at h
      refine .inl ⟨by rw [List.length_append]; omega, ?_⟩
      rw [List.getElem?_append_left (by omega), MC.ne ej]
      exact h
  · rw [List.getElem?_append_right hj] at h
    rcases Nat.lt_or_ge (j - (MC m q c').length) T.length with hj2 | hj2
    · rw [List.getElem?_append_left hj2] at h
      refine .inl ⟨by rw [List.length_append]; omega, ?_⟩
      rw [List.getElem?_append_right (by omega), ← e]
      exact h
    · rw [List.getElem?_append_right hj2] at h
      obtain ⟨h1, h2⟩ := hX b (List.mem_of_getElem? h)
      exact .inr ⟨h1, fun x hx => Ren.of_g0 (h2 x hx)⟩
end
end Go.Proofs.YtibhgdglbillaaaDoor.Abs
namespace Go.Proofs.YtibhgdglbillaaaDoor.Abs
set_option linter.unusedSimpArgs false
set_option linter.unusedVariables false
/-- The sum of f i over i below n. -/
def sm (f : Nat → Int) : Nat → Int
  | 0 => 0
  | n + 1 => sm f n + f n
/-- What lies on bench b of the jobs below n. -/
def ld (p : Nat → Int) (f : Nat → Nat) (n b : Nat) : Int := sm (fun i => if f i = b then p i else 0) n
end Go.Proofs.YtibhgdglbillaaaDoor.Abs
namespace Go.Proofs.YtibhgdglbillaaaDoor.Abs
set_option linter.unusedSimpArgs false
set_option linter.unusedVariables false
section
variable {p : Nat → Int} {F G : Nat → Nat} {k m : Nat} {n : Int}
end
section
variable {p : Nat → Int} {F G : Nat → Nat} {k m : Nat} {n : Int}
/-- The longest first, each into the first bar with room. -/
structure FFD (p : Nat → Int) (F : Nat → Nat) (k : Nat) (n : Int) : Prop where
  pos : ∀ i, i < k → 1 ≤ p i ∧ p i ≤ n
  dec : ∀ i j, i ≤ j → j < k → p j ≤ p i
  full : ∀ i, i < k → ∀ b, b < F i → n < ld p F i b + p i
  room : ∀ i, i < k → ld p F i (F i) + p i ≤ n
theorem least_ex {q : Nat → Prop} [DecidablePred q] {i : Nat} (h : q i) : ∃ e, e ≤ i ∧ q e ∧ ∀ j, j < e → ¬ q j := by
  induction i using Nat.strongRecOn with
  | _ i ih =>
    by_cases h1 : ∃ j, j < i ∧ q j
    · obtain ⟨j, hj, hq⟩ := h1
      obtain ⟨e, e1, e2, e3⟩ := ih j hj hq
      exact ⟨e, by omega, e2, e3⟩
    · exact ⟨i, Nat.le_refl _, h, fun j hj hq => h1 ⟨j, hj, hq⟩⟩
/-- Some excess item, the last of them. -/
theorem FFD.last (h : FFD p F k n) {i : Nat} (hi : i < k) (he : m ≤ F i) : ∃ e, e < k ∧ m ≤ F e ∧ ∀ j, j < k → m ≤ F j → p e ≤ p j := by
  obtain ⟨d, d1, d2, d3⟩ := least_ex (q := fun d => m ≤ F (k - 1 - d)) (i := k - 1 - i) (by rw [show k - 1 - (k - 1 - i) = i by omega]; exact he)
  refine ⟨k - 1 - d, by omega, d2, fun j hj hm => ?_⟩
  refine h.dec j (k - 1 - d) ?_ (by omega)
  rcases Nat.lt_or_ge (k - 1 - d) j with q | q
  · exfalso
    refine d3 (k - 1 - j) (by omega) ?_
    rw [show k - 1 - (k - 1 - j) = j by omega]; exact hm
  · exact q
theorem FFD.nn (h : FFD p F k n) : ∀ i, i < k → 0 ≤ p i := fun i hi => by have := h.pos i hi; omega
end
section
variable {p : Nat → Int} {G : Nat → Nat} {k m : Nat} {n t : Int}
end
end Go.Proofs.YtibhgdglbillaaaDoor.Abs
namespace Go.Proofs.YtibhgdglbillaaaDoor.Abs
set_option linter.unusedSimpArgs false
set_option linter.unusedVariables false
/-- How many bars, how much of the last one is used, which strip came last. -/
abbrev Ld := Nat × Int × Nat
section
variable {n : Int} {p : Nat → Int} {k : Nat}
def l2 (l : Ld) : Nat × Int := (l.1, l.2.1)
end
section
variable {n : Int} {p : Nat → Int} {k m : Nat} {G : Nat → Nat}
end
end Go.Proofs.YtibhgdglbillaaaDoor.Abs
namespace Go.Proofs.YtibhgdglbillaaaDoor.Abs
set_option linter.unusedSimpArgs false
set_option linter.unusedVariables false
def ms (le : Int → Int → Bool) (l : List Int) : List Int := l.mergeSort le
section
variable {le : Int → Int → Bool} {l p A B A1 A2 B1 B2 : List Int}
end
end Go.Proofs.YtibhgdglbillaaaDoor.Abs
namespace Go.Proofs.YtibhgdglbillaaaDoor.Abs
set_option linter.unusedSimpArgs false
set_option linter.unusedVariables false
def upI (n : Nat) : List Int := (List.range n).map (Nat.cast : Nat → Int)
def leL (l : List Int) (a b : Int) : Bool := decide (-(l.getD a.toNat 0) < -(l.getD b.toNat 0) ∨ -(l.getD a.toNat 0) = -(l.getD b.toNat 0) ∧ ((0 : Int) < 0 ∨ (0 : Int) = 0 ∧ a ≤ b))
theorem leL_iff {l : List Int} {a b : Int} : leL l a b = true ↔ l.getD b.toNat 0 < l.getD a.toNat 0 ∨ l.getD b.toNat 0 = l.getD a.toNat 0 ∧ a ≤ b := by
  simp only [leL, decide_eq_true_eq, Int.lt_irrefl, false_or, true_and]; omega
def ordL (l : List Int) : List Int := ms (leL l) (upI l.length)
structure Pick (l : List Int) (mt : List Bool) (i : Nat) (x : Int) : Prop where
  none : x < 0 → x = -1 ∧ ∀ j, j < i → mt.getD j false = true
  some : 0 ≤ x → x < i ∧ mt.getD x.toNat false = false ∧ ∀ j : Nat, j < i → mt.getD j false = false → leL l x j = true
theorem Pick.zero (l : List Int) (mt : List Bool) : Pick l mt 0 (-1) := ⟨fun _ => ⟨rfl, fun j hj => by omega⟩, fun h => by omega⟩
theorem Pick.take {l : List Int} {mt : List Bool} {i : Nat} {x : Int} (h : Pick l mt i x) (hm : mt.getD i false = false) (hx : x < 0 ∨ 0 ≤ x ∧ l.getD x.toNat 0 < l.getD i 0) : Pick l mt (i + 1) i :=
  ⟨fun h' => by omega, fun _ => by
    refine ⟨by omega, by rw [Int.toNat_natCast]; exact hm, fun j hj hjm => ?_⟩
    rcases Nat.lt_succ_iff_lt_or_eq.1 hj with h' | h'
    · rcases hx with hx | ⟨hx, hlt⟩
      · rw [(h.none hx).2 j h'] at hjm; cases hjm
      · have h3 := (h.some hx).2.2 j h' hjm
        rw [leL_iff] at h3 ⊢
        simp only [Int.toNat_natCast] at *
        omega
    · subst h'
      rw [leL_iff]; omega⟩
def oi (l : List Int) (k : Nat) : Nat := ((ordL l).getD k 0).toNat
end Go.Proofs.YtibhgdglbillaaaDoor.Abs
namespace Go.Proofs.YtibhgdglbillaaaDoor.Abs
set_option linter.unusedSimpArgs false
set_option linter.unusedVariables false
open Go.RowKit
open Go.Proofs.YtibhgdglbillaaaDoor.Sim
open Go.Proofs
/-- A node: what is done, at what number, turned or not. -/
abbrev Nd := Int × Int × Bool
def ndc1 (n : Nd) : List Value := [.int .i64 n.1, .int .i64 n.2.1, .bool n.2.2]
def ndc (l : List Nd) : List Value := l.flatMap ndc1
section
variable {B : Brd} {K : List Kd}
end
section
variable {P : Program} {nt : Nat} {ops : Array Oper} {t : Fm} {m : AM} {K : Fm → AM → Prop} {d T : Nat} {p : String} {af : Array Edge}
end
/-- A plan in memory: a whole row of its own. -/
def PL (b0 : Nat) (l : List Nd) (M : AM) (v : Value) : Prop := ∃ (a : Nat) (kd : Kind) (sz : Nat), b0 ≤ a ∧ v = .slice (some ⟨a, 0, none⟩) l.length l.length ∧ 0 < l.length ∧ M[a]? = some (some { cells := ndc l, kind := kd, size := sz }) ∧ ((kd = .own ∧ sz = 1) ∨ (kd = .grow ∧ sz = 3))
end Go.Proofs.YtibhgdglbillaaaDoor.Abs
namespace Go.Proofs.YtibhgdglbillaaaDoor.Abs
set_option linter.unusedSimpArgs false
set_option linter.unusedVariables false
open Go.RowKit
open Go.Proofs.YtibhgdglbillaaaDoor.Sim
open Go.Proofs
/-- A piece: its kind, where it lies, turned or not. -/
abbrev Plc := Nat × R4 × Bool
def plc1 (x : Plc) : List Value := .int .i64 (x.1 : Nat) :: (x.2.1.rc.cells ++ [.bool x.2.2])
def plc (l : List Plc) : List Value := l.flatMap plc1
end Go.Proofs.YtibhgdglbillaaaDoor.Abs
namespace Go.Proofs.YtibhgdglbillaaaDoor.Abs
set_option linter.unusedSimpArgs false
set_option linter.unusedVariables false
open Go.Proofs
/-- A byte of a string. -/
def byte8 (s : ByteArray) (i : Nat) : UInt8 := s[i]?.getD 0
theorem byteAt_8 (s : ByteArray) (i : Nat) : byteAt s i = (byte8 s i).toNat := rfl
theorem byte8_mk (l : List UInt8) {i : Nat} (h : i < l.length) : byte8 ⟨l.toArray⟩ i = l[i] := by
  have hs : i < (⟨l.toArray⟩ : ByteArray).size := by
    show i < l.toArray.size
    simpa using h
  unfold byte8
  rw [getElem?_pos _ i hs]
  rfl
theorem size_mk (l : List UInt8) : (⟨l.toArray⟩ : ByteArray).size = l.length := by
  show l.toArray.size = _
  simp
section
variable {B : Brd} {r : R4}
theorem skinRow (h : skinB B = true) {y : Nat} (hy : y < bh B) : (rowOf B y).size = bw B ∧ ∀ x, x < bw B → 48 ≤ byteAt (rowOf B y) x ∧ byteAt (rowOf B y) x ≤ 57 := by
  simp only [skinB, Bool.and_eq_true, decide_eq_true_eq, List.all_eq_true] at h
  have hm : rowOf B y ∈ B := by
    unfold rowOf
    rw [getD_in _ _ hy]
    exact List.getElem_mem hy
  have := h.2 _ hm
  simp only [rowB, Bool.and_eq_true, decide_eq_true_eq, List.all_eq_true, List.mem_range] at this
  exact ⟨this.1, fun x hx => this.2 x (by rw [this.1]; exact hx)⟩
theorem skin_of {B : Brd} (h1 : 1 ≤ bh B ∧ bh B ≤ 48) (h2 : 1 ≤ bw B ∧ bw B ≤ 48) (h : ∀ y, y < bh B → (rowOf B y).size = bw B ∧ ∀ x, x < bw B → 48 ≤ byteAt (rowOf B y) x ∧ byteAt (rowOf B y) x ≤ 57) : skinB B = true := by
  simp only [skinB, Bool.and_eq_true, decide_eq_true_eq, List.all_eq_true]
  refine ⟨⟨h1.1, h1.2, h2.1, h2.2⟩, fun s hs => ?_⟩
  obtain ⟨y, hy, rfl⟩ := List.getElem_of_mem hs
  have e : B[y] = rowOf B y := by
    unfold rowOf
    rw [getD_in _ _ hy]
  obtain ⟨k1, k2⟩ := h y hy
  rw [e]
  simp only [rowB, Bool.and_eq_true, decide_eq_true_eq, List.all_eq_true, List.mem_range]
  exact ⟨k1, fun x hx => k2 x (by rw [← k1]; exact hx)⟩
theorem board_skin (h : boardB B = true) : skinB B = true := by
  simp only [boardB, Bool.and_eq_true] at h
  exact h.1
end
end Go.Proofs.YtibhgdglbillaaaDoor.Abs
namespace Go.Proofs.YtibhgdglbillaaaDoor.Abs
set_option linter.unusedSimpArgs false
set_option linter.unusedVariables false
section
variable {leaf leaf' : R4 → Int} {w h : Nat}
theorem V_mono (hl : ∀ r : R4, r.ok w h → leaf r ≤ leaf' r) : ∀ r : R4, r.ok w h → V leaf r ≤ V leaf' r := by
  refine R4.ind fun r hr ih => ?_
  rw [V_eq hr, V_eq hr]
  have := hl r hr
  have := cutM_mono (d := true) hr ih
  have := cutM_mono (d := false) hr ih
  omega
def mir (w : Nat) (r : R4) : R4 := ⟨w - r.x - r.a, r.y, r.a, r.b⟩
theorem mir_ok {r : R4} (hr : r.ok w h) : (mir w r).ok w h := by unfold R4.ok mir at *; simp only; omega
theorem mxc_rev (f : Nat → Int) (k : Nat) : mxc (fun i => f (k + 1 - i)) k = mxc f k := by
  refine Int.le_antisymm (mxc_le (mxc_nonneg _ _) k fun i h1 h2 => le_mxc k (k + 1 - i) (by omega) (by omega)) (mxc_le (mxc_nonneg _ _) k fun i h1 h2 => ?_)
  have := le_mxc (f := fun i => f (k + 1 - i)) k (k + 1 - i) (by omega) (by omega)
  rwa [show k + 1 - (k + 1 - i) = i by omega] at this
theorem V_mirror (hl : ∀ r : R4, r.ok w h → leaf' r = leaf (mir w r)) : ∀ r : R4, r.ok w h → V leaf' r = V leaf (mir w r) := by
  refine R4.ind fun r hr ih => ?_
  have hm := mir_ok hr
  rw [V_eq hr, V_eq hm, hl r hr]
  have e1 : cutM (V leaf') r false = cutM (V leaf) (mir w r) false := by
    unfold cutM
    refine mxc_congr _ fun i h1 h2 => ?_
    have h3 : i + 1 ≤ r.len false := by omega
    rw [ih _ (lo_ok hr h1 h3) (lo_size hr h1 h3), ih _ (hi_ok hr h1 h3) (hi_size hr h1 h3)]
    rfl
  have e2 : cutM (V leaf') r true = cutM (V leaf) (mir w r) true := by
    unfold cutM
    rw [← mxc_rev]
    refine mxc_congr _ fun i h1 h2 => ?_
    have h2' : i ≤ r.a - 1 := h2
    have h3 : r.len true - 1 + 1 - i + 1 ≤ r.len true := by unfold R4.len; simp only [if_true]; omega
    have h4 : 1 ≤ r.len true - 1 + 1 - i := by unfold R4.len; simp only [if_true]; omega
    rw [ih _ (lo_ok hr h4 h3) (lo_size hr h4 h3), ih _ (hi_ok hr h4 h3) (hi_size hr h4 h3), Int.add_comm]
    have hok := hr
    obtain ⟨x, y, a, b⟩ := r
    simp only [R4.len, R4.lo, R4.hi, mir, if_true, R4.ok] at *
    have q1 : a - (a - 1 + 1 - i) = i := by omega
    have q2 : w - (x + (a - 1 + 1 - i)) - (a - (a - 1 + 1 - i)) = w - x - a := by omega
    have q3 : w - x - (a - 1 + 1 - i) = w - x - a + i := by omega
    have q4 : a - 1 + 1 - i = a - i := by omega
    rw [q2, q3, q1, q4]
  rw [e1, e2]
end
section
variable {B B' : Brd} {K : List Kd} {g : Int}
theorem rowc_mono {y x : Nat} : ∀ k, (∀ i, i < k → gr B (x + i) y ≤ gr B' (x + i) y) → rowc B g y x k ≤ rowc B' g y x k
  | 0, _ => Nat.le_refl _
  | k + 1, h => by
    have h1 := rowc_mono k fun i hi => h i (by omega)
    have h2 := h k (by omega)
    simp only [rowc]
    split <;> split <;> omega
theorem cnt_mono {x y a : Nat} : ∀ k, (∀ i j, i < a → j < k → gr B (x + i) (y + j) ≤ gr B' (x + i) (y + j)) → cnt B g x y a k ≤ cnt B' g x y a k
  | 0, _ => Nat.le_refl _
  | k + 1, h => by
    have h1 := cnt_mono k fun i j hi hj => h i j hi (by omega)
    have h2 := rowc_mono (g := g) a fun i hi => h i k hi (by omega)
    simp only [cnt]; omega
theorem fits_mono {k : Kd} {r : R4} (h : ∀ i j, i < r.a → j < r.b → gr B (r.x + i) (r.y + j) ≤ gr B' (r.x + i) (r.y + j)) (hf : (fitsM B k r).isSome = true) : (fitsM B' k r).isSome = true := by
  have h1 := cnt_mono (g := k.g) r.b h
  have h2 := cnt_le B' k.g r.x r.y r.a r.b
  unfold fitsM at *
  split at hf
  · rename_i hc
    rw [if_pos hc]
    split at hf
    · rw [if_pos (by omega)]; rfl
    · simp at hf
  · rename_i hc
    rw [if_neg hc]
    split at hf
    · rename_i hc'
      rw [if_pos hc']
      split at hf
      · rw [if_pos (by omega)]; rfl
      · simp at hf
    · simp at hf
theorem leafN_better {r : R4} (h : ∀ k, (fitsM B k r).isSome = true → (fitsM B' k r).isSome = true) (n : Nat) : leafN B K r n ≤ leafN B' K r n := by
  rcases leafN_wit (B := B) (K := K) (r := r) n with e | ⟨i, h1, h2, h3⟩
  · rw [e]; exact leafN_nonneg ..
  · rw [h3]; exact le_leafN h1 (h _ h2)
theorem leafM_better {r : R4} (h : ∀ i j, i < r.a → j < r.b → gr B (r.x + i) (r.y + j) ≤ gr B' (r.x + i) (r.y + j)) : leafM B K r ≤ leafM B' K r :=
  leafN_better (fun k hk => fits_mono h hk) _
theorem leafN_ext {K' : List Kd} {r : R4} : ∀ n, (∀ i, i < n → K.getD i default = K'.getD i default) → leafN B K r n = leafN B K' r n
  | 0, _ => rfl
  | n + 1, h => by simp only [leafN]; rw [leafN_ext n fun i hi => h i (by omega), h n (by omega)]
theorem leafM_more {r : R4} (k : Kd) : leafM B K r ≤ leafM B (K ++ [k]) r := by
  unfold leafM
  rw [leafN_ext (K' := K ++ [k]) K.length fun i hi => by simp [List.getD_eq_getElem?_getD, List.getElem?_append_left hi]]
  exact leafN_mono _ _ _ (by simp)
/-- The rows of a mirrored board. -/
theorem rowc_mir {w y : Nat} (h : ∀ x, x < w → gr B' x y = gr B (w - 1 - x) y) : ∀ (a x : Nat), x + a ≤ w → rowc B' g y (w - x - a) a = rowc B g y x a
  | 0, _, _ => rfl
  | a + 1, x, hx => by
    have h1 := rowc_mir h a (x + 1) (by omega)
    have h2 := rowc_add B g y x 1 a
    rw [show 1 + a = a + 1 by omega] at h2
    rw [h2, ← h1, rowc, show w - x - (a + 1) = w - (x + 1) - a by omega, h (w - (x + 1) - a + a) (by omega)]
    simp only [rowc]
    rw [show w - 1 - (w - (x + 1) - a + a) = x + 0 by omega]
    omega
theorem cnt_mir {w x y a : Nat} (hx : x + a ≤ w) : ∀ b, (∀ j, j < b → ∀ x, x < w → gr B' x (y + j) = gr B (w - 1 - x) (y + j)) → cnt B' g (w - x - a) y a b = cnt B g x y a b
  | 0, _ => rfl
  | b + 1, h => by
    have h1 := cnt_mir hx b fun j hj => h j (by omega)
    have h2 := rowc_mir (g := g) (h b (by omega)) a x hx
    simp only [cnt]; omega
theorem fits_mir {w h : Nat} {k : Kd} {r : R4} (hr : r.ok w h) (hm : ∀ y, y < h → ∀ x, x < w → gr B' x y = gr B (w - 1 - x) y) : fitsM B' k r = fitsM B k (mir w r) := by
  have hk := mir_ok hr
  have e : cnt B' k.g r.x r.y r.a r.b = cnt B k.g (mir w r).x r.y r.a r.b := by
    have := cnt_mir (B := B) (B' := B') (g := k.g) (y := r.y) (w := w) (x := (mir w r).x) (a := r.a) (by have := hk.2.2.1; simpa [mir] using this) r.b (fun j hj x hx => hm _ (by have := hr.2.2.2; omega) x hx)
    rw [← this]
    congr 1
    unfold mir R4.ok at *
    simp only
    omega
  unfold fitsM
  rw [e]
  rfl
theorem leafM_mir {w h : Nat} {r : R4} (hr : r.ok w h) (hm : ∀ y, y < h → ∀ x, x < w → gr B' x y = gr B (w - 1 - x) y) : leafM B' K r = leafM B K (mir w r) := by
  unfold leafM
  have : ∀ n, leafN B' K r n = leafN B K (mir w r) n := fun n => by
    induction n with
    | zero => rfl
    | succ n ih => simp only [leafN]; rw [ih, fits_mir hr hm]
  exact this _
end
end Go.Proofs.YtibhgdglbillaaaDoor.Abs
namespace Go.Proofs.YtibhgdglbillaaaDoor.Abs
set_option linter.unusedSimpArgs false
set_option linter.unusedVariables false
/-- Cut in one direction, down to what the base gives. -/
def WW (base : R4 → Int) (d : Bool) : Nat → R4 → Int
  | 0, _ => 0
  | f + 1, r => max (base r) (cutM (WW base d f) r d)
def W (base : R4 → Int) (d : Bool) (r : R4) : Int := WW base d r.size r
section
variable {base base' leaf : R4 → Int} {w h : Nat} {d : Bool}
/-- With t changes of direction left, below a cut in direction d. -/
def SS (leaf : R4 → Int) : Nat → Bool → R4 → Int
  | 0, d => W leaf d
  | t + 1, d => W (fun r => max (leaf r) (cutM (SS leaf t (!d)) r (!d))) d
end
end Go.Proofs.YtibhgdglbillaaaDoor.Abs
namespace Go.Proofs.YtibhgdglbillaaaDoor.Abs
set_option linter.unusedSimpArgs false
set_option linter.unusedVariables false
open Go.RowKit
open Go.Proofs.YtibhgdglbillaaaDoor.Sim
open Go.Proofs
section
variable (leaf : R4 → Int) (w h : Nat)
/-- The tables with t changes left hold what they should. -/
def SI2 (t : Nat) (D : R4 → Prop) (s : List Int × List Int) : Prop := TabI (SS leaf t true) w h D s.1 ∧ TabI (SS leaf t false) w h D s.2
end
section
variable {leaf : R4 → Int} {w h : Nat} {t : Nat} {pv : List Int × List Int}
theorem SI2.zero : SI2 leaf w h t (fun _ => False) (List.replicate (total w h) 0, List.replicate (total w h) 0) := ⟨TabI.zero, TabI.zero⟩
end
end Go.Proofs.YtibhgdglbillaaaDoor.Abs
namespace Go.Proofs.YtibhgdglbillaaaDoor.Abs
set_option linter.unusedSimpArgs false
set_option linter.unusedVariables false
open Go.RowKit
open Go.Proofs.YtibhgdglbillaaaDoor.Sim
open Go.Proofs
/-- Two blocks of numbers. -/
def M2 (M : AM) (q0 q1 : Nat) (s : List Int × List Int) : AM := MI (MI M q0 s.1) q1 s.2
section
variable {M M0 L T : AM} {q0 q1 : Nat} {s : List Int × List Int}
theorem M2.len : (M2 M q0 q1 s).length = M.length := by unfold M2; rw [MI.len, MI.len]
theorem M2.at0 (h : q0 ≠ q1) (h0 : q0 < M.length) : (M2 M q0 q1 s)[q0]? = some (some { cells := iv s.1 }) := by unfold M2; rw [MI.ne h]; exact MI.at h0
theorem M2.at1 (h1 : q1 < M.length) : (M2 M q0 q1 s)[q1]? = some (some { cells := iv s.2 }) := by unfold M2; exact MI.at (by rw [MI.len]; exact h1)
theorem M2.set1 (h1 : q1 < M.length) (z : List Int) : (M2 M q0 q1 s ++ T).set q1 (some { cells := iv z }) = M2 M q0 q1 (s.1, z) ++ T := by unfold M2; exact MI.set (by rw [MI.len]; exact h1) T z
theorem M2.flat (h : q0 ≠ q1) (h0 : q0 < M.length) (h1 : q1 < M.length) (s s' : List Int × List Int) (n j : Nat) (b : Blk) (hj : (M2 M q0 q1 s')[j]? = some (some b)) : (j < M.length ∧ (M2 M q0 q1 s)[j]? = some (some b)) ∨ (isMapK b.kind = false ∧ ∀ x ∈ b.cells, Ren rid n x x) := by
  by_cases e1 : j = q1
  · subst e1
    rw [M2.at1 h1] at hj
    simp only [Option.some.injEq] at hj
    subst hj
    exact .inr ⟨rfl, fun x hx => Ren.of_g0 (g0_iv _ x hx)⟩
  by_cases e0 : j = q0
  · subst e0
    rw [M2.at0 h h0] at hj
    simp only [Option.some.injEq] at hj
    subst hj
    exact .inr ⟨rfl, fun x hx => Ren.of_g0 (g0_iv _ x hx)⟩
  unfold M2 at hj ⊢
  rw [MI.ne e1, MI.ne e0] at hj
  exact .inl ⟨(List.getElem?_eq_some_iff.1 hj).1, by rw [MI.ne e1, MI.ne e0]; exact hj⟩
theorem M2.same (h : q0 ≠ q1) (h0 : M[q0]? = some (some { cells := iv s.1 })) (h1 : M[q1]? = some (some { cells := iv s.2 })) : M2 M q0 q1 s = M := by
  unfold M2 MI
  have e0 := List.getElem?_eq_some_iff.1 h0
  have e1 := List.getElem?_eq_some_iff.1 h1
  rw [← e0.2, List.set_getElem_self, ← e1.2, List.set_getElem_self]
theorem M2.rd {a o : Nat} {x : Value} (h0 : a ≠ q0) (h1 : a ≠ q1) (hr : Rd M a o x) : Rd (M2 M q0 q1 s) a o x := by
  unfold M2
  exact MI.rd h1 (MI.rd h0 hr)
end
end Go.Proofs.YtibhgdglbillaaaDoor.Abs
namespace Go.Proofs.YtibhgdglbillaaaDoor.Abs
set_option linter.unusedSimpArgs false
set_option linter.unusedVariables false
open Go.RowKit
open Go.Proofs.YtibhgdglbillaaaDoor.Sim
open Go.Proofs
theorem M2.ne {M : AM} {q0 q1 a : Nat} {s : List Int × List Int} (h0 : a ≠ q0) (h1 : a ≠ q1) : (M2 M q0 q1 s)[a]? = M[a]? := by unfold M2; rw [MI.ne h1, MI.ne h0]
end Go.Proofs.YtibhgdglbillaaaDoor.Abs
namespace Go.Proofs.YtibhgdglbillaaaDoor.Abs
set_option linter.unusedSimpArgs false
set_option linter.unusedVariables false
open Go.RowKit
open Go.Proofs.YtibhgdglbillaaaDoor.Sim
open Go.Proofs
section
variable {P : Program} {nt d : Nat} {ops : Array Oper} {T : TypeId} {p : String} {af : Array Edge} {t : Fm} {m : AM} {K : Fm → AM → Prop}
end
theorem kds_at {m L : AM} {k : Nat} {l : List Kd} (h : L[k]? = some (gb (kvc l) 5)) : Kds (m ++ L) (gv (m.length + k) l.length) l := by
  have hlt : m.length + k < (m ++ L).length := by
    rw [List.length_append]
    have := (List.getElem?_eq_some_iff.1 h).1
    omega
  refine ⟨m.length + k, 0, gv_sl _ _, hlt, fun i hi => ?_⟩
  have hp : 0 < (kvc l).length := by rw [kvc_len]; omega
  rw [gb_pos hp] at h
  refine ⟨_, by rw [get_app]; exact h, fun j v hj => ?_⟩
  rw [Nat.zero_add]
  exact kvc_get l i hi j v hj
end Go.Proofs.YtibhgdglbillaaaDoor.Abs
namespace Go.Proofs.YtibhgdglbillaaaDoor.Abs
set_option linter.unusedSimpArgs false
set_option linter.unusedVariables false
open Go.RowKit
open Go.Proofs.YtibhgdglbillaaaDoor.Sim
open Go.Proofs
section
variable {P : Program} {nt : Nat} {ops : Array Oper} {t : Fm} {m : AM} {K : Fm → AM → Prop} {d T : Nat} {p : String} {af : Array Edge}
end
section
variable {B : Brd} {K : List Kd} {f : Nat} {r : R4}
end
theorem PL.cons {b0 : Nat} {x : Nd} {l1 l2 : List Nd} {M : AM} {a : Nat} (h : b0 ≤ a) (hM : M[a]? = some (some { cells := (ndc1 x ++ ndc l1) ++ ndc l2, kind := .grow, size := 3 })) : PL b0 (x :: (l1 ++ l2)) M (.slice (some ⟨a, 0, none⟩) (1 + l1.length + l2.length) (1 + l1.length + l2.length)) :=
  ⟨a, .grow, 3, h, by rw [show (x :: (l1 ++ l2)).length = 1 + l1.length + l2.length by simp; omega], by simp, by rw [hM]; simp [ndc], .inr ⟨rfl, rfl⟩⟩
end Go.Proofs.YtibhgdglbillaaaDoor.Abs
namespace Go.Proofs.YtibhgdglbillaaaDoor.Abs
set_option linter.unusedSimpArgs false
set_option linter.unusedVariables false
open Go.RowKit
open Go.Proofs.YtibhgdglbillaaaDoor.Sim
open Go.Proofs
/-- A row of nodes in memory. -/
def Nds (m : AM) (v : Value) (l : List Nd) : Prop := ∃ a o, Sl v a o l.length ∧ a < m.length ∧ ∀ i, i < l.length → RdL m a (o + i * 3) (ndc1 (l.getD i (0, 0, false)))
theorem Nds.old {m : AM} {v : Value} {l : List Nd} (h : Nds m v l) (L : AM) : Nds (m ++ L) v l := by
  obtain ⟨a, o, h1, h2, h3⟩ := h
  exact ⟨a, o, h1, by rw [List.length_append]; omega, fun i hi => (h3 i hi).old L⟩
theorem Nds.nil {m : AM} (hM : 0 < m.length) : Nds m (.slice none 0 0) [] := ⟨0, 0, .inl ⟨rfl, rfl⟩, hM, fun i hi => by simp at hi⟩
end Go.Proofs.YtibhgdglbillaaaDoor.Abs
namespace Go.Proofs.YtibhgdglbillaaaDoor.Abs
set_option linter.unusedSimpArgs false
set_option linter.unusedVariables false
open Go.RowKit
open Go.Proofs.YtibhgdglbillaaaDoor.Sim
open Go.Proofs
/-- What holds whatever of the region was done: L tells which operations were; s is the slot of the first one, pv the values of those that only reckon. -/
structure RI (m0 : AM) (base : List (Nat × Value)) (s : Nat) (pv : Nat → Option Value) (x : Nd) (l1 l2 : List Nd) (L : Nat → Bool) (t : Fm) (M : AM) : Prop where
  mem : ∃ N, M = m0 ++ N
  old : ∀ e ∈ base, t e.1 = some e.2
  pure : ∀ j v, pv j = some v → L j = true → t (s + j) = some v
  lit : L 2 = true → ∃ a, t (s + 2) = some (.slice (some ⟨a, 0, none⟩) 1 1) ∧ m0.length ≤ a ∧ (L 10 = false → M[a]? = some (some { cells := ndc1 x }))
  one : L 9 = true → ∃ (a : Nat) (kd : Kind) (sz : Nat), t (s + 9) = some (.slice (some ⟨a, 0, none⟩) l1.length l1.length) ∧ 0 < l1.length ∧ (L 10 = false → M[a]? = some (some { cells := ndc l1, kind := kd, size := sz }))
  app : L 10 = true → ∃ a, t (s + 10) = some (.slice (some ⟨a, 0, none⟩) (1 + l1.length) (1 + l1.length)) ∧ m0.length ≤ a ∧ (L 18 = false → M[a]? = some (some { cells := ndc1 x ++ ndc l1, kind := .grow, size := 3 }))
  two : L 17 = true → ∃ (a : Nat) (kd : Kind) (sz : Nat), t (s + 17) = some (.slice (some ⟨a, 0, none⟩) l2.length l2.length) ∧ 0 < l2.length ∧ (L 18 = false → M[a]? = some (some { cells := ndc l2, kind := kd, size := sz }))
  all : L 18 = true → ∃ a, t (s + 18) = some (.slice (some ⟨a, 0, none⟩) (1 + l1.length + l2.length) (1 + l1.length + l2.length)) ∧ m0.length ≤ a ∧ M[a]? = some (some { cells := (ndc1 x ++ ndc l1) ++ ndc l2, kind := .grow, size := 3 })
  res : L 19 = true → L 18 = true ∧ ∃ a, t 8 = some (.slice (some ⟨a, 0, none⟩) (1 + l1.length + l2.length) (1 + l1.length + l2.length)) ∧ m0.length ≤ a ∧ M[a]? = some (some { cells := (ndc1 x ++ ndc l1) ++ ndc l2, kind := .grow, size := 3 })
section
variable {m0 : AM} {base : List (Nat × Value)} {s : Nat} {pv : Nat → Option Value} {x : Nd} {l1 l2 : List Nd} {L : Nat → Bool} {t : Fm} {M : AM}
theorem RI.start (h : ∀ e ∈ base, t e.1 = some e.2) : RI m0 base s pv x l1 l2 (fun _ => false) t m0 :=
  ⟨⟨[], by simp⟩, h, fun _ _ _ q => (by cases q), fun q => (by cases q), fun q => (by cases q), fun q => (by cases q), fun q => (by cases q), fun q => (by cases q), fun q => (by cases q)⟩
/-- More memory behind. -/
theorem RI.ext (h : RI m0 base s pv x l1 l2 L t M) (T : AM) : RI m0 base s pv x l1 l2 L t (M ++ T) where
  mem := by obtain ⟨N, e⟩ := h.mem; exact ⟨N ++ T, by rw [e, List.append_assoc]⟩
  old := h.old
  pure := h.pure
  lit := fun q => by obtain ⟨a, a1, a2, a3⟩ := h.lit q; exact ⟨a, a1, a2, fun r => get_old _ (a3 r)⟩
  one := fun q => by obtain ⟨a, kd, sz, a1, a2, a3⟩ := h.one q; exact ⟨a, kd, sz, a1, a2, fun r => get_old _ (a3 r)⟩
  app := fun q => by obtain ⟨a, a1, a2, a3⟩ := h.app q; exact ⟨a, a1, a2, fun r => get_old _ (a3 r)⟩
  two := fun q => by obtain ⟨a, kd, sz, a1, a2, a3⟩ := h.two q; exact ⟨a, kd, sz, a1, a2, fun r => get_old _ (a3 r)⟩
  all := fun q => by obtain ⟨a, a1, a2, a3⟩ := h.all q; exact ⟨a, a1, a2, get_old _ a3⟩
  res := fun q => by obtain ⟨r, a, a1, a2, a3⟩ := h.res q; exact ⟨r, a, a1, a2, get_old _ a3⟩
theorem upL_no {i j : Nat} (h : upL L i j = false) : L j = false := by
  by_cases e : j = i
  · subst e; rw [upL_same] at h; cases h
  · rwa [upL_ne L e] at h
/-- An operation that only reckons. -/
theorem RI.put (h : RI m0 base s pv x l1 l2 L t M) (hb : ∀ e ∈ base, e.1 < s) (hs : 8 < s) {j : Nat} {v : Value} (hv : pv j = some v) (hj : j ≠ 2 ∧ j ≠ 9 ∧ j ≠ 10 ∧ j ≠ 17 ∧ j ≠ 18 ∧ j ≠ 19) : RI m0 base s pv x l1 l2 (upL L j) (Abs.put t (s + j) v) M where
  mem := h.mem
  old := fun e he => by rw [put_ne t v (by have := hb e he; omega)]; exact h.old e he
  pure := fun k w hw hk => by
    by_cases e : k = j
    · subst e
      rw [hv] at hw
      injection hw with hw
      rw [put_same, hw]
    · rw [upL_ne L e] at hk
      rw [put_ne t v (by omega)]
      exact h.pure k w hw hk
  lit := fun q => by
    rw [upL_ne L (by omega)] at q
    obtain ⟨a, a1, a2, a3⟩ := h.lit q
    exact ⟨a, by rw [put_ne t v (by omega)]; exact a1, a2, fun r => a3 (upL_no r)⟩
  one := fun q => by
    rw [upL_ne L (by omega)] at q
    obtain ⟨a, kd, sz, a1, a2, a3⟩ := h.one q
    exact ⟨a, kd, sz, by rw [put_ne t v (by omega)]; exact a1, a2, fun r => a3 (upL_no r)⟩
  app := fun q => by
    rw [upL_ne L (by omega)] at q
    obtain ⟨a, a1, a2, a3⟩ := h.app q
    exact ⟨a, by rw [put_ne t v (by omega)]; exact a1, a2, fun r => a3 (upL_no r)⟩
  two := fun q => by
    rw [upL_ne L (by omega)] at q
    obtain ⟨a, kd, sz, a1, a2, a3⟩ := h.two q
    exact ⟨a, kd, sz, by rw [put_ne t v (by omega)]; exact a1, a2, fun r => a3 (upL_no r)⟩
  all := fun q => by
    rw [upL_ne L (by omega)] at q
    obtain ⟨a, a1, a2, a3⟩ := h.all q
    exact ⟨a, by rw [put_ne t v (by omega)]; exact a1, a2, a3⟩
  res := fun q => by
    rw [upL_ne L (by omega)] at q
    obtain ⟨r, a, a1, a2, a3⟩ := h.res q
    exact ⟨by rw [upL_ne L (by omega)]; exact r, a, by rw [put_ne t v (by omega)]; exact a1, a2, a3⟩
end
end Go.Proofs.YtibhgdglbillaaaDoor.Abs
namespace Go.Proofs.YtibhgdglbillaaaDoor.Abs
set_option linter.unusedSimpArgs false
set_option linter.unusedVariables false
open Go.RowKit
open Go.Proofs.YtibhgdglbillaaaDoor.Sim
open Go.Proofs
def stripB (n x : Int) : Bool := decide (1 ≤ x ∧ x ≤ n)
def stripsB (n : Int) (l : List Int) : Bool := decide (1 ≤ n) && decide (n ≤ 2000) && decide (l.length ≤ 14) && l.all (stripB n)
structure SpOk (n : Int) (l : List Int) : Prop where
  n1 : 1 ≤ n
  n2 : n ≤ 2000
  len : l.length ≤ 14
  at_ : ∀ i, i < l.length → 1 ≤ l.getD i 0 ∧ l.getD i 0 ≤ n
theorem SpOk.of {n : Int} {l : List Int} (h : stripsB n l = true) : SpOk n l := by
  simp only [stripsB, Bool.and_eq_true, decide_eq_true_eq, List.all_eq_true] at h
  obtain ⟨⟨⟨h1, h2⟩, h3⟩, h4⟩ := h
  refine ⟨h1, h2, h3, fun i hi => ?_⟩
  have := h4 (l.getD i 0) (by simp [hi])
  simpa [stripB] using this
end Go.Proofs.YtibhgdglbillaaaDoor.Abs
namespace Go.Proofs.YtibhgdglbillaaaDoor.Abs
set_option linter.unusedSimpArgs false
set_option linter.unusedVariables false
open Go.RowKit
open Go.Proofs.YtibhgdglbillaaaDoor.Sim
open Go.Proofs
/-- A place is named, nothing lies in it. -/
theorem Post.none_put {base : Nat} {R : Pl} {m : AM} {w : World} (h : MRep base R m w) (q : Sim.Place) : Post base m (m ++ [none]) R (R.put m.length q) w w := by
  have hle := Pl.le_put R m.length q (h.none_ _ (Nat.le_refl _))
  have old : ∀ (i : Nat) (b : Blk), (m ++ [none])[i]? = some (some b) → m[i]? = some (some b) := by
    intro i b hi
    rcases Nat.lt_or_ge i m.length with hl | hl
    · rwa [List.getElem?_append_left hl] at hi
    · rw [List.getElem?_append_right hl] at hi
      rcases Nat.eq_zero_or_pos (i - m.length) with e | e
      · rw [e] at hi; simp at hi
      · rw [List.getElem?_eq_none (by simp; omega)] at hi; cases hi
  have ne : ∀ (i : Nat) (b : Blk), m[i]? = some (some b) → i ≠ m.length := fun i b hi => by
    have := (List.getElem?_eq_some_iff.1 hi).1
    omega
  refine ⟨hle, ⟨fun j hj => ?_, fun j d hj => ?_, fun i j b c p r hi hj hb hc hij hp hr => ?_⟩, rfl, rfl, rfl, Nat.le_refl _, fun _ _ _ => rfl, fun k ho => .inr ?_⟩
  · simp at hj
    rw [Pl.put_other _ _ (by omega)]
    exact h.none_ j (by omega)
  · obtain ⟨r, h1, h2⟩ := h.rep j d (old j d hj)
    exact ⟨r, hle _ _ h1, h2.mono hle⟩
  · rw [Pl.put_other _ _ (ne i b (old i b hi))] at hp
    rw [Pl.put_other _ _ (ne j c (old j c hj))] at hr
    exact h.apart i j b c p r (old i b hi) (old j c hj) hb hc hij hp hr
  · obtain ⟨i, b, p, h1, h2, h3, h4⟩ := ho
    rw [Pl.put_other _ _ (ne i b (old i b h1))] at h3
    exact ⟨i, b, p, old i b h1, h2, h3, h4⟩
/-- What is left of a row of n + 1 behind its first element; k is a new name. -/
def rsV (a o s n c k : Nat) : Value := if c = 0 then .slice (some ⟨k, 0, none⟩) 0 0 else .slice (some ⟨a, o + s, none⟩) n c
section
variable {P : Program} {nt : Nat} {ops : Array Oper} {t : Fm} {m : AM} {K : Fm → AM → Prop} {d T : Nat} {p : String} {af : Array Edge}
theorem Step.rest {x y : Operand} {X e s a o n c : Nat} {kk : IntKind} (hx : evo t x = some (.slice (some ⟨a, o, none⟩) (n + 1) (c + 1))) (hy : evo t y = some (.int kk 1)) (hn : n ≤ c) (hX : P.underlying X = some (.slice e)) (hsz : szB P e = some s)
    (hlt : Nat.blt d nt = true) (hK : K (put t d (rsV a o s n c m.length)) (m ++ [none])) : Step P nt ops ⟨some d, .slice X x (some y) none none, T, p, af, none⟩ t m K := by
  refine .l rfl rfl hlt (by simp [stillB, hX]) (by simp [Op.operands, hx, hy]) ?_
  intro base R w b Q next hb hm hev hn'
  have h1 := hev x (by simp [Op.operands])
  have h2 := hev y (by simp [Op.operands])
  rw [evD_of hx] at h1
  rw [evD_of hy] at h2
  obtain ⟨q, hq, ex⟩ : ∃ q, R a = some q ∧ b.eval x = .slice (some ⟨q.block, q.off + o, none⟩) (n + 1) (c + 1 + q.extra) := by
    generalize b.eval x = x' at h1
    cases h1 with
    | slice _ _ _ _ q hq hle => exact ⟨q, hq, rfl⟩
  have ey : b.eval y = .int kk 1 := by
    generalize b.eval y = y' at h2
    cases h2
    rfl
  have b1 : bnd 0 (some (.int kk 1)) = some 1 := by simp [bnd]
  have b2 : bnd (n + 1) none = some (n + 1) := by simp [bnd]
  obtain ⟨u, hu⟩ : ∃ u, u = (if c + 1 + q.extra = 1 then (⟨q.block, q.off + o, none⟩ : Addr) else (⟨q.block, q.off + o, none⟩ : Addr).add (1 * s)) := ⟨_, rfl⟩
  have hr : (Instr.sliceAt X (b.eval x) (some (b.eval y)) none none).run P w = .ok (.slice (some u) n (c + q.extra)) w := by
    rw [ex, ey, hu]
    simp [Instr.sliceAt, Instr.slice, run_underlying hX, run_bounds (P := P) b1 b2 (show 1 ≤ n + 1 by omega) (show n + 1 ≤ c + 1 + q.extra by omega), run_sizeOf' hsz]
    split <;> rfl
  have hx' : (execOp b.eval ⟨some d, .slice X x (some y) none none, T, p, af, none⟩).run P w = .ok (.value (.slice (some u) n (c + q.extra))) w := by simp [execOp, hr]
  by_cases hc : c = 0
  · obtain rfl : n = 0 := by omega
    subst hc
    have hrel : ∃ z : Sim.Place, u = ⟨z.block, z.off, none⟩ ∧ z.extra = q.extra := by
      by_cases hz : 0 + 1 + q.extra = 1
      · rw [if_pos hz] at hu
        exact ⟨⟨q.block, q.off + o, q.extra⟩, hu, rfl⟩
      · rw [if_neg hz, Addr.add_lit] at hu
        exact ⟨⟨q.block, q.off + o + 1 * s, q.extra⟩, hu, rfl⟩
    obtain ⟨z, hz, hze⟩ := hrel
    refine wp_of_does rfl (.inl hx') (hn' (R.put m.length z) (rsV a o s 0 0 m.length) _ _ w ?_ (Post.none_put hm z) hK)
    have := Rel.slice (R := R.put m.length z) m.length 0 0 0 z (Pl.put_same _ _ _) (Nat.le_refl _)
    rw [hze] at this
    rw [hz]
    simpa [rsV] using this
  · refine wp_of_does rfl (.inl hx') (hn' (R.put m.length q) (rsV a o s n c m.length) _ _ w ?_ (Post.none_put hm q) hK)
    have hle := Pl.le_put R m.length q (hm.none_ _ (Nat.le_refl _))
    have := Rel.slice (R := R.put m.length q) a (o + s) n c q (hle _ _ hq) hn
    rw [if_neg (by omega), Addr.add_lit] at hu
    rw [hu]
    simpa [rsV, hc, Nat.add_assoc] using this
end
end Go.Proofs.YtibhgdglbillaaaDoor.Abs
namespace Go.Proofs.YtibhgdglbillaaaDoor.Abs
set_option linter.unusedSimpArgs false
set_option linter.unusedVariables false
open Go.RowKit
open Go.Proofs.YtibhgdglbillaaaDoor.Sim
open Go.Proofs
section
variable {P : Program} {nt : Nat} {ops : Array Oper} {t : Fm} {m : AM} {K : Fm → AM → Prop} {d T : Nat} {p : String} {af : Array Edge}
/-- A call that may turn anything that its contract says. -/
theorem Step.callZ {args : Array Operand} {tys : Array TypeId} {g : FuncId} {vs : List Value} {fn : Func} {b : Code} {S : Value → AM → Prop} (hP : Fit P) (ha : evL t args.toList = some vs) (hf : P.funcs[g]? = some fn) (hb : fn.body = some b)
    (hlt : Nat.blt d nt = true) (h : ACall P g vs.toArray m S) (hK : ∀ (v : Value) (M : AM), S v M → K (put t d v) (M ++ [])) : Step P nt ops ⟨some d, .call ⟨.value (.func g), args, tys⟩, T, p, af, none⟩ t m K :=
  .callF hP ha hf hb hlt h (by
    intro v m' hS
    have := hK v m' hS
    rwa [List.append_nil] at this)
end
/-- What is left of a row of nodes that lies in the memory m0. -/
def PN (m0 : AM) (v : Value) (l : List Nd) : Prop := ∃ a o, Sl v a o l.length ∧ ∀ i, i < l.length → RdL m0 a (o + i * 3) (ndc1 (l.getD i (0, 0, false)))
theorem PN.old {m : AM} {v : Value} {l : List Nd} (h : PN m v l) (T : AM) : PN (m ++ T) v l := by
  obtain ⟨a, o, h1, h2⟩ := h
  exact ⟨a, o, h1, fun i hi => (h2 i hi).old T⟩
theorem PN.cons {m : AM} {v : Value} {n : Nd} {l : List Nd} (h : PN m v (n :: l)) : ∃ a o c, l.length ≤ c ∧ v = .slice (some ⟨a, o, none⟩) (l.length + 1) (c + 1) ∧ ∀ i, i < (n :: l).length → RdL m a (o + i * 3) (ndc1 ((n :: l).getD i (0, 0, false))) := by
  obtain ⟨a, o, sl, rd⟩ := h
  rcases sl with ⟨e, h0⟩ | ⟨c, hc, e⟩ | ⟨h0, o', k, e⟩
  · simp at h0
  · simp at hc
    exact ⟨a, o, c - 1, by omega, by rw [e, show c - 1 + 1 = c by omega]; rfl, rd⟩
  · simp at h0
/-- Behind the first node. -/
theorem PN.tail {m0 : AM} {a o c k : Nat} {n : Nd} {l : List Nd} (hc : l.length ≤ c) (h : ∀ i, i < (n :: l).length → RdL m0 a (o + i * 3) (ndc1 ((n :: l).getD i (0, 0, false)))) : PN m0 (rsV a o 3 l.length c k) l := by
  by_cases h0 : c = 0
  · have hl : l.length = 0 := by omega
    obtain rfl : l = [] := List.length_eq_zero_iff.1 hl
    subst h0
    exact ⟨k, 0, .inr (.inl ⟨0, Nat.le_refl _, rfl⟩), fun i hi => by simp at hi⟩
  · refine ⟨a, o + 3, .inr (.inl ⟨c, hc, by simp [rsV, h0]⟩), fun i hi => ?_⟩
    have := h (i + 1) (by simpa using hi)
    rw [show o + (i + 1) * 3 = o + 3 + i * 3 by omega] at this
    simpa using this
/-- The found pieces: variable F names a row of them, in block A. -/
def FD (b0 : Nat) (m : AM) (F A : Nat) (l : List Plc) : Prop := b0 ≤ F ∧ ∃ v, m[F]? = some (some { cells := [v] }) ∧ (l = [] ∧ v = .slice none 0 0 ∨ v = .slice (some ⟨A, 0, none⟩) l.length l.length ∧ 0 < l.length ∧ b0 ≤ A ∧ A ≠ F ∧ m[A]? = some (some { cells := plc l, kind := .grow, size := 6 }))
theorem FD.old {b0 : Nat} {m : AM} {F A : Nat} {l : List Plc} (h : FD b0 m F A l) (T : AM) : FD b0 (m ++ T) F A l := by
  obtain ⟨h1, v, h2, h3⟩ := h
  refine ⟨h1, v, get_old _ h2, ?_⟩
  rcases h3 with h3 | ⟨h3, h4, h5, h6, h7⟩
  · exact .inl h3
  · exact .inr ⟨h3, h4, h5, h6, get_old _ h7⟩
/-- All but these two blocks is as it was. -/
def Kp (m M : AM) (F A : Nat) : Prop := m.length ≤ M.length ∧ ∀ (j : Nat) (b : Option Blk), j ≠ F → j ≠ A → m[j]? = some b → M[j]? = some b
theorem Kp.refl (m : AM) (F A : Nat) : Kp m m F A := ⟨Nat.le_refl _, fun _ _ _ _ h => h⟩
theorem Kp.old {m M : AM} {F A : Nat} (h : Kp m M F A) (T : AM) : Kp m (M ++ T) F A := ⟨by rw [List.length_append]; have := h.1; omega, fun j b h1 h2 h3 => get_old _ (h.2 j b h1 h2 h3)⟩
theorem Kp.trans {m m1 M : AM} {F A A1 : Nat} (h : Kp m m1 F A) (hA : A1 = A ∨ m.length ≤ A1) (k : Kp m1 M F A1) : Kp m M F A := by
  refine ⟨Nat.le_trans h.1 k.1, fun j b h1 h2 h3 => k.2 j b h1 (fun e => ?_) (h.2 j b h1 h2 h3)⟩
  have := (List.getElem?_eq_some_iff.1 h3).1
  rcases hA with hA | hA
  · exact h2 (by rw [e, hA])
  · omega
theorem Kp.rd {m M : AM} {F A a o : Nat} {v : Value} (h : Kp m M F A) (h1 : a ≠ F) (h2 : a ≠ A) (hr : Rd m a o v) : Rd M a o v := by
  obtain ⟨b, k1, k2⟩ := hr
  exact ⟨b, h.2 a _ h1 h2 k1, k2⟩
/-- The first piece is found. -/
theorem FD.one {b0 : Nat} {M : AM} {F A : Nat} {x : Plc} {g : Option Blk} (h : FD b0 M F A []) (h0 : b0 ≤ M.length) : FD b0 (((M ++ [g]) ++ [some ({ cells := plc1 x, kind := .grow, size := 6 } : Blk)]).set F (some ({ cells := [.slice (some ⟨(M ++ [g]).length, 0, none⟩) 1 1] } : Blk))) F (M ++ [g]).length [x] := by
  obtain ⟨h1, v, h2, _⟩ := h
  have hl := (List.getElem?_eq_some_iff.1 h2).1
  have hml : (M ++ [g]).length = M.length + 1 := by simp
  refine ⟨h1, .slice (some ⟨(M ++ [g]).length, 0, none⟩) 1 1, ?_, .inr ⟨rfl, by simp, by omega, by omega, ?_⟩⟩
  · rw [List.getElem?_set_self (by simp; omega)]
  · rw [List.getElem?_set_ne (by omega), List.getElem?_append_right (Nat.le_refl _)]
    simp [plc]
theorem FD.more {b0 : Nat} {M : AM} {F A : Nat} {x : Plc} {l : List Plc} {g : Option Blk} (h : FD b0 M F A l) (h0 : b0 ≤ M.length) : FD b0 ((((M ++ [g]).set A none) ++ [some ({ cells := plc l ++ plc1 x, kind := .grow, size := 6 } : Blk)]).set F (some ({ cells := [.slice (some ⟨(M ++ [g]).length, 0, none⟩) (l.length + 1) (l.length + 1)] } : Blk))) F (M ++ [g]).length (l ++ [x]) := by
  obtain ⟨h1, v, h2, _⟩ := h
  have hl := (List.getElem?_eq_some_iff.1 h2).1
  have hml : (M ++ [g]).length = M.length + 1 := by simp
  refine ⟨h1, .slice (some ⟨(M ++ [g]).length, 0, none⟩) (l.length + 1) (l.length + 1), ?_, .inr ⟨by simp, by simp, by omega, by omega, ?_⟩⟩
  · rw [List.getElem?_set_self (by simp; omega)]
  · rw [List.getElem?_set_ne (by omega), List.getElem?_append_right (by simp)]
    simp [plc]
end Go.Proofs.YtibhgdglbillaaaDoor.Abs
namespace Go.Proofs.YtibhgdglbillaaaDoor.Abs
set_option linter.unusedSimpArgs false
set_option linter.unusedVariables false
open Go.RowKit
open Go.Proofs.YtibhgdglbillaaaDoor.Sim
open Go.Proofs
/-- Pieces in memory. -/
def Pcs (m : AM) (v : Value) (l : List Plc) : Prop := ∃ a o, Sl v a o l.length ∧ a < m.length ∧ ∀ i, i < l.length → RdL m a (o + i * 6) (plc1 (l.getD i default))
theorem Pcs.old {m : AM} {v : Value} {l : List Plc} (h : Pcs m v l) (L : AM) : Pcs (m ++ L) v l := by
  obtain ⟨a, o, h1, h2, h3⟩ := h
  exact ⟨a, o, h1, by rw [List.length_append]; omega, fun i hi => (h3 i hi).old L⟩
theorem Pcs.nil {m : AM} (hM : 0 < m.length) : Pcs m (.slice none 0 0) [] := ⟨0, 0, .inl ⟨rfl, rfl⟩, hM, fun i hi => by simp at hi⟩
end Go.Proofs.YtibhgdglbillaaaDoor.Abs
namespace Go.Proofs.YtibhgdglbillaaaDoor.Abs
set_option linter.unusedSimpArgs false
set_option linter.unusedVariables false
open Go.Proofs
section
variable {B : Brd} {K : List Kd}
theorem best_V (hg : goodB B K = true) : bestM B K = V (leafM B K) (wholeR B) := by
  have hgb : boardB B = true := by simp only [goodB, Bool.and_eq_true] at hg; exact hg.1
  have hin := good_in hgb
  have hok : (wholeR B).ok (bw B) (bh B) := by
    simp only [R4.ok, wholeR]
    omega
  exact (bestT_ok (leaf := leafM B K) hin.2.2.2 hin.2.1).dn _ hok
end
section
variable {B B' : Brd} {g : Int}
end
section
variable {B : Brd} {K : List Kd}
end
end Go.Proofs.YtibhgdglbillaaaDoor.Abs
namespace Go.Proofs.YtibhgdglbillaaaDoor.Abs
set_option linter.unusedSimpArgs false
set_option linter.unusedVariables false
open Go.Proofs
def mirS (s : ByteArray) : ByteArray := ⟨s.data.toList.reverse.toArray⟩
def mirB (B : Brd) : Brd := B.map mirS
/-- A row of which a cell may be one better. -/
def betS (s : ByteArray) (q : Bool) (x : Nat) : ByteArray := if q && decide (x < s.size) && decide (byteAt s x < 57) then ⟨(s.data.toList.set x (byte8 s x + 1)).toArray⟩ else s
def betB (B : Brd) (x y : Int) : Brd := (List.range (bh B)).map fun k => betS (rowOf B k) (decide ((k : Int) = y) && decide (0 ≤ x)) x.toNat
theorem size_list (s : ByteArray) : s.data.toList.length = s.size := by
  show s.data.toList.length = s.data.size
  simp
theorem byte8_list (s : ByteArray) {i : Nat} (h : i < s.size) : byte8 s i = s.data.toList[i]'(by rw [size_list]; exact h) := by
  unfold byte8
  rw [getElem?_pos s i h]
  rfl
theorem mirS_size (s : ByteArray) : (mirS s).size = s.size := by
  unfold mirS
  rw [size_mk, List.length_reverse, size_list]
theorem mirS_byte (s : ByteArray) {i : Nat} (h : i < s.size) : byteAt (mirS s) i = byteAt s (s.size - 1 - i) := by
  rw [byteAt_8, byteAt_8]
  unfold mirS
  rw [byte8_mk _ (by rw [List.length_reverse, size_list]; exact h), byte8_list s (by omega), List.getElem_reverse]
  congr 1
theorem betS_size (s : ByteArray) (q : Bool) (x : Nat) : (betS s q x).size = s.size := by
  unfold betS
  split
  · rw [size_mk, List.length_set, size_list]
  · rfl
theorem betS_byte (s : ByteArray) (q : Bool) (x : Nat) {i : Nat} (h : i < s.size) (hr : 48 ≤ byteAt s i ∧ byteAt s i ≤ 57) : byteAt s i ≤ byteAt (betS s q x) i ∧ byteAt (betS s q x) i ≤ 57 := by
  unfold betS
  split
  · rename_i c
    simp only [Bool.and_eq_true, decide_eq_true_eq] at c
    have eb : byteAt ⟨(s.data.toList.set x (byte8 s x + 1)).toArray⟩ i = ((s.data.toList.set x (byte8 s x + 1))[i]'(by rw [List.length_set, size_list]; exact h)).toNat := by
      rw [byteAt_8, byte8_mk]
    rw [eb, List.getElem_set]
    split
    · rename_i e
      subst e
      have e1 : (byte8 s x + 1).toNat = byteAt s x + 1 := by
        rw [byteAt_8, UInt8.toNat_add]
        have := c.2
        rw [byteAt_8] at this
        show ((byte8 s x).toNat + 1) % 256 = _
        omega
      rw [e1]
      omega
    · rw [← byte8_list s h, ← byteAt_8]
      omega
  · exact ⟨Nat.le_refl _, hr.2⟩
section
variable {B : Brd} {K : List Kd}
theorem mirB_len : (mirB B).length = B.length := by simp [mirB]
theorem mirB_row {y : Nat} (h : y < bh B) : rowOf (mirB B) y = mirS (rowOf B y) := by
  unfold rowOf
  have h' : y < B.length := h
  rw [getD_in _ _ (by rw [mirB_len]; exact h'), getD_in _ _ h']
  unfold mirB
  rw [List.getElem_map]
theorem betB_len (x y : Int) : (betB B x y).length = B.length := by simp [betB, bh]
theorem betB_row (x y : Int) {k : Nat} (h : k < bh B) : rowOf (betB B x y) k = betS (rowOf B k) (decide ((k : Int) = y) && decide (0 ≤ x)) x.toNat := by
  have e : rowOf (betB B x y) k = (betB B x y)[k]'(by rw [betB_len]; exact h) := by
    unfold rowOf
    rw [getD_in _ _ (by rw [betB_len]; exact h)]
  rw [e]
  simp [betB]
theorem board_of {B : Brd} (h1 : 1 ≤ bh B ∧ bh B ≤ 16) (h2 : 1 ≤ bw B ∧ bw B ≤ 16) (h : ∀ y, y < bh B → (rowOf B y).size = bw B ∧ ∀ x, x < bw B → 48 ≤ byteAt (rowOf B y) x ∧ byteAt (rowOf B y) x ≤ 57) : boardB B = true := by
  simp only [boardB, Bool.and_eq_true, decide_eq_true_eq]
  exact ⟨skin_of ⟨h1.1, by omega⟩ ⟨h2.1, by omega⟩ h, h1.2, h2.2⟩
theorem mirB_ok (h : boardB B = true) : boardB (mirB B) = true ∧ bw (mirB B) = bw B ∧ bh (mirB B) = bh B := by
  have hin := good_in h
  have e1 : bh (mirB B) = bh B := mirB_len
  have e2 : bw (mirB B) = bw B := by
    unfold bw
    rw [mirB_row (by omega), mirS_size]
  refine ⟨board_of (by omega) (by omega) fun y hy => ?_, e2, e1⟩
  rw [e1] at hy
  obtain ⟨r1, r2⟩ := skinRow (board_skin h) hy
  rw [mirB_row hy, mirS_size, e2]
  refine ⟨r1, fun x hx => ?_⟩
  rw [mirS_byte _ (by omega)]
  exact r2 _ (by omega)
theorem betB_ok (h : boardB B = true) (x y : Int) : boardB (betB B x y) = true ∧ bw (betB B x y) = bw B ∧ bh (betB B x y) = bh B := by
  have hin := good_in h
  have e1 : bh (betB B x y) = bh B := betB_len x y
  have e2 : bw (betB B x y) = bw B := by
    unfold bw
    rw [betB_row x y (by omega), betS_size]
  refine ⟨board_of (by omega) (by omega) fun k hk => ?_, e2, e1⟩
  rw [e1] at hk
  obtain ⟨r1, r2⟩ := skinRow (board_skin h) hk
  rw [betB_row x y hk, betS_size, e2]
  refine ⟨r1, fun i hi => ?_⟩
  have hb := r2 i hi
  have := betS_byte (rowOf B k) (decide ((k : Int) = y) && decide (0 ≤ x)) x.toNat (show i < (rowOf B k).size by omega) hb
  omega
theorem gr_mir (h : boardB B = true) {x y : Nat} (hy : y < bh B) (hx : x < bw B) : gr (mirB B) x y = gr B (bw B - 1 - x) y := by
  obtain ⟨r1, _⟩ := skinRow (board_skin h) hy
  unfold gr
  rw [mirB_row hy, mirS_byte _ (by omega), r1]
theorem gr_bet (h : boardB B = true) (a b : Int) {x y : Nat} (hy : y < bh B) (hx : x < bw B) : gr B x y ≤ gr (betB B a b) x y := by
  obtain ⟨r1, r2⟩ := skinRow (board_skin h) hy
  unfold gr
  rw [betB_row a b hy]
  have := betS_byte (rowOf B y) (decide ((y : Int) = b) && decide (0 ≤ a)) a.toNat (show x < (rowOf B y).size by omega) (r2 x hx)
  omega
theorem whole_okR (h : boardB B = true) : (wholeR B).ok (bw B) (bh B) := by
  have hin := good_in h
  simp only [R4.ok, wholeR]
  omega
theorem best_mir (hg : goodB B K = true) : goodB (mirB B) K = true ∧ bestM (mirB B) K = bestM B K := by
  have hg' := hg
  simp only [goodB, Bool.and_eq_true] at hg'
  obtain ⟨m1, m2, m3⟩ := mirB_ok hg'.1
  have hgm : goodB (mirB B) K = true := by simp only [goodB, Bool.and_eq_true]; exact ⟨m1, hg'.2⟩
  refine ⟨hgm, ?_⟩
  rw [best_V hg, best_V hgm]
  have hw := whole_okR hg'.1
  have e : wholeR (mirB B) = wholeR B := by unfold wholeR; rw [m2, m3]
  rw [e, V_mirror (w := bw B) (h := bh B) (leaf := leafM B K) (fun r hr => leafM_mir hr fun y hy x hx => gr_mir hg'.1 hy hx) _ hw]
  congr 1
  unfold mir wholeR
  simp
theorem best_bet (hg : goodB B K = true) (x y : Int) : goodB (betB B x y) K = true ∧ bestM B K ≤ bestM (betB B x y) K := by
  have hg' := hg
  simp only [goodB, Bool.and_eq_true] at hg'
  obtain ⟨m1, m2, m3⟩ := betB_ok hg'.1 x y
  have hgm : goodB (betB B x y) K = true := by simp only [goodB, Bool.and_eq_true]; exact ⟨m1, hg'.2⟩
  refine ⟨hgm, ?_⟩
  rw [best_V hg, best_V hgm]
  have e : wholeR (betB B x y) = wholeR B := by unfold wholeR; rw [m2, m3]
  rw [e]
  refine V_mono (w := bw B) (h := bh B) (fun r hr => leafM_better fun i j hi hj => ?_) _ (whole_okR hg'.1)
  unfold R4.ok at hr
  exact gr_bet hg'.1 x y (by omega) (by omega)
theorem best_kind (hg : goodB B K = true) (k : Kd) (hk : kindsB (K ++ [k]) = true) : goodB B (K ++ [k]) = true ∧ bestM B K ≤ bestM B (K ++ [k]) := by
  have hg' := hg
  simp only [goodB, Bool.and_eq_true] at hg'
  have hgm : goodB B (K ++ [k]) = true := by simp only [goodB, Bool.and_eq_true]; exact ⟨hg'.1, hk⟩
  refine ⟨hgm, ?_⟩
  rw [best_V hg, best_V hgm]
  exact V_mono (w := bw B) (h := bh B) (fun r _ => leafM_more k) _ (whole_okR hg'.1)
end
def revK {α : Type} [Inhabited α] (l : List α) (k : Nat) : List α := (List.range l.length).map fun p => if p < k ∨ l.length ≤ p + k then l.getD (l.length - 1 - p) default else l.getD p default
section
variable {α : Type} [Inhabited α] {l : List α}
theorem revK_len (k : Nat) : (revK l k).length = l.length := by simp [revK]
theorem revK_zero : revK l 0 = l := by
  apply List.ext_getElem
  · simp [revK]
  · intro i h1 h2
    simp only [revK, List.getElem_map, List.getElem_range]
    rw [if_neg (by omega), getD_in _ _ h2]
theorem revK_full {k : Nat} (hk : l.length ≤ 2 * k + 1) : revK l k = l.reverse := by
  apply List.ext_getElem
  · simp [revK]
  · intro i h1 h2
    simp only [List.length_reverse] at h2
    simp only [revK, List.getElem_map, List.getElem_range, List.getElem_reverse]
    by_cases c : i < k ∨ l.length ≤ i + k
    · rw [if_pos c, getD_in _ _ (by omega)]
    · rw [if_neg c, getD_in _ _ h2]
      congr 1
      omega
theorem revK_get {k i : Nat} (hi : i < l.length) (h : ¬ (i < k ∨ l.length ≤ i + k)) : (revK l k)[i]? = some (l.getD i default) := by
  rw [List.getElem?_eq_getElem (by rw [revK_len]; exact hi)]
  simp only [revK, List.getElem_map, List.getElem_range]
  rw [if_neg h]
theorem revK_step {k : Nat} (hk : 2 * k + 1 < l.length) : ((revK l k).set k (l.getD (l.length - 1 - k) default)).set (l.length - 1 - k) (l.getD k default) = revK l (k + 1) := by
  apply List.ext_getElem
  · simp [revK]
  · intro i h1 h2
    simp only [List.length_set, revK_len] at h1
    rw [List.getElem_set, List.getElem_set]
    simp only [revK, List.getElem_map, List.getElem_range]
    by_cases c1 : l.length - 1 - k = i
    · rw [if_pos c1, if_pos (by omega)]
      congr 1
      omega
    · rw [if_neg c1]
      by_cases c2 : k = i
      · subst c2
        rw [if_pos rfl, if_pos (by omega)]
      · rw [if_neg c2]
        by_cases c3 : i < k ∨ l.length ≤ i + k
        · rw [if_pos c3, if_pos (by omega)]
        · rw [if_neg c3, if_neg (by omega)]
end
end Go.Proofs.YtibhgdglbillaaaDoor.Abs
namespace Go.Proofs.YtibhgdglbillaaaDoor.Abs
set_option linter.unusedSimpArgs false
set_option linter.unusedVariables false
open Go.RowKit
open Go.Proofs.YtibhgdglbillaaaDoor.Sim
def by8 (l : List UInt8) : List Value := l.map fun b => .int .u8 (b.toNat : Int)
theorem by8_len (l : List UInt8) : (by8 l).length = l.length := by simp [by8]
theorem by8_get {l : List UInt8} {j : Nat} (h : j < l.length) : (by8 l)[j]? = some (.int .u8 ((l[j]).toNat : Int)) := by simp [by8, h]
theorem by8_set (l : List UInt8) (i : Nat) (b : UInt8) : (by8 l).set i (.int .u8 (b.toNat : Int)) = by8 (l.set i b) := by simp [by8, List.map_set]
section
variable {P : Program} {nt : Nat} {ops : Array Oper} {t : Fm} {m : AM} {K : Fm → AM → Prop} {d T : Nat} {p : String} {af : Array Edge}
/-- A string made of bytes. -/
theorem Step.toStr {x : Operand} {S D e a o n : Nat} {v : Value} {l : List UInt8} (hx : evo t x = some v) (hs : Sl v a o n) (hn : l.length = n) (hrd : RdL m a o (by8 l)) (hS : P.underlying S = some (.slice e)) (he : P.underlying e = some (.int .u8)) (hD : P.underlying D = some .string)
    (hlt : Nat.blt d nt = true) (hK : K (put t d (.string ⟨l.toArray⟩)) m) : Step P nt ops ⟨some d, .convert S D x, T, p, af, none⟩ t m K := by
  refine .l rfl rfl hlt (by simp [stillB, hS]) (by simp [Op.operands, hx]) ?_
  intro base R w b Q next hb hm hev hn'
  have h1 := hev x (by simp [Op.operands])
  rw [evD_of hx] at h1
  have hrun : (convert S D (b.eval x)).run P w = .ok (.string ⟨l.toArray⟩) w := by
    generalize b.eval x = x' at h1
    rcases hs with ⟨rfl, h0⟩ | ⟨c, hc, rfl⟩ | ⟨h0, o', k, rfl⟩
    · obtain rfl : l = [] := List.eq_nil_of_length_eq_zero (by omega)
      cases h1
      rw [run_convert_bytes_string w S D e none 0 0 hS he hD]
      simp [Conv.bytesToString]
      rfl
    · cases h1 with
      | slice _ _ _ _ q hq hle =>
      subst hn
      refine run_convert_bytes_back w S D e _ _ l hS he hD fun j hj => ?_
      obtain ⟨blk, k1, k2⟩ := hrd
      obtain ⟨v', r1, r2⟩ := (hm.of k1 hq).cell (k2 j _ (by8_get hj))
      rw [Addr.add_lit]
      cases r2
      rw [Nat.add_assoc]
      exact r1
    · obtain rfl : l = [] := List.eq_nil_of_length_eq_zero (by omega)
      subst h0
      cases h1 with
      | sliceSpot _ _ _ q hq => exact run_convert_bytes_back w S D e _ _ [] hS he hD fun j hj => by simp at hj
  exact wp_of_does rfl (.inl (by simp [execOp, hrun])) (hn' R (.string ⟨l.toArray⟩) _ m w (.string _) (.refl hm) hK)
/-- A row of bytes made of a string. -/
theorem Step.toBytes {x : Operand} {S D e : Nat} {s : ByteArray} (hx : evo t x = some (.string s)) (hS : P.underlying S = some .string) (hD : P.underlying D = some (.slice e)) (he : P.underlying e = some (.int .u8))
    (hlt : Nat.blt d nt = true) (hK : K (put t d (.slice (some ⟨m.length, 0, none⟩) s.size s.size)) (m ++ [some { cells := by8 s.data.toList, kind := .str, size := 1 }])) : Step P nt ops ⟨some d, .convert S D x, T, p, af, none⟩ t m K := by
  refine .l rfl rfl hlt (by simp [stillB, hS]) (by simp [Op.operands, hx]) ?_
  intro base R w b Q next hb hm hev hn'
  have h1 := hev x (by simp [Op.operands])
  rw [evD_of hx] at h1
  have ex : b.eval x = .string s := by
    generalize b.eval x = x' at h1
    cases h1
    rfl
  have hr := run_bytes_of_string (P := P) w S D e s hS hD he
  have hge := grownCap_ge w s.size 0 e
  generalize grownCap w s.size 0 e = cap at hr hge
  have hsz : (bytesRow s cap).size = cap := by
    have : s.data.size = s.size := rfl
    simp only [bytesRow, Array.size_append, Array.size_map, Array.size_replicate]
    omega
  have hbl : Below w.heap.size w (w.drew.alloc (.cells (bytesRow s cap) e ((bytesRow s cap).size, (bytesRow s cap).size + 1))) := ((Below.refl _ _).drew).alloc (Nat.le_refl _) _
  have hnone := hm.none_ _ (Nat.le_refl _)
  obtain ⟨k1, k2⟩ := (hm.pad 1).put (w' := w.drew.alloc (.cells (bytesRow s cap) e ((bytesRow s cap).size, (bytesRow s cap).size + 1))) m.length (by simp) (by simp) hnone { cells := by8 s.data.toList, kind := .str, size := 1 } ⟨w.heap.size, 0, cap - s.size⟩ hbl.block rfl (by
    refine ⟨by simp, bytesRow s cap, e, heap_alloc_new w.drew _, hb, ?_, fun j v hj => ?_⟩
    · have : s.data.size = s.size := rfl
      simp only [by8_len, Array.length_toList, hsz]
      omega
    · have hjl : j < s.data.toList.length := by
        have := (List.getElem?_eq_some_iff.1 hj).1
        simpa [by8_len] using this
      rw [by8_get hjl] at hj
      injection hj with hj
      subst hj
      refine ⟨_, ?_, .int _ _, rfl⟩
      have hjs : j < s.data.size := by simpa using hjl
      have hj2 : j < s.size := hjs
      simp [bytesRow, Array.getElem?_append, hj2, hjs])
  have e1 : (m ++ List.replicate 1 none).set m.length (some { cells := by8 s.data.toList, kind := .str, size := 1 }) = m ++ [some { cells := by8 s.data.toList, kind := .str, size := 1 }] := by
    rw [List.set_append_right _ _ (Nat.le_refl _)]
    simp
  rw [e1] at k2
  have hx' : (execOp b.eval ⟨some d, .convert S D x, T, p, af, none⟩).run P w = .ok (.value (.slice (some ⟨w.heap.size, 0, none⟩) s.size cap)) (w.drew.alloc (.cells (bytesRow s cap) e ((bytesRow s cap).size, (bytesRow s cap).size + 1))) := by
    simp only [execOp, ex, Sem.run_bind, hr, Result.andThen_ok]
    rfl
  refine wp_of_does rfl (.inl hx') (hn' (R.put m.length ⟨w.heap.size, 0, cap - s.size⟩) _ _ _ _ ?_ ⟨k1, k2, rfl, rfl, rfl, hbl.size, fun k hk _ => hbl.block k hk, fun k ho => ?_⟩ hK)
  · have := Rel.slice (R := R.put m.length ⟨w.heap.size, 0, cap - s.size⟩) m.length 0 s.size s.size ⟨w.heap.size, 0, cap - s.size⟩ (Pl.put_same _ _ _) (Nat.le_refl _)
    rw [show s.size + (cap - s.size) = cap by omega] at this
    simpa using this
  · rw [← e1] at ho
    rcases ho.of_put with e | e
    · exact .inl (by rw [e]; exact Nat.le_refl _)
    · exact .inr e.pad
/-- A byte of such a row is set. -/
theorem Step.storeS {x y : Operand} {ty : TypeId} {a o sz : Nat} {c : List Value} {k : IntKind} {z : Int} (hx : evo t x = some (.pointer (some ⟨a, o, none⟩))) (hy : evo t y = some (.int k z)) (hb : m[a]? = some (some { cells := c, kind := .str, size := sz })) (hz : szB P ty = some 1) (ho : o < c.length)
    (hK : K t (m.set a (some { cells := c.set o (.int k z), kind := .str, size := sz }))) : Step P nt ops ⟨none, .store ty x y, T, p, af, none⟩ t m K := by
  refine .l0 rfl rfl rfl (by simp [Op.operands, hx, hy]) ?_
  intro base R w b Q next hbs hm hev hn'
  have h1 := hev x (by simp [Op.operands])
  have h2 := hev y (by simp [Op.operands])
  rw [evD_of hx] at h1
  rw [evD_of hy] at h2
  obtain ⟨q, hq, ex⟩ : ∃ q, R a = some q ∧ b.eval x = .pointer (some ⟨q.block, q.off + o, none⟩) := by
    generalize b.eval x = x' at h1
    cases h1 with
    | ptr _ _ q hq => exact ⟨q, hq, rfl⟩
  have ey : b.eval y = .int k z := by
    generalize b.eval y = y' at h2
    cases h2
    rfl
  have hr := hm.of hb hq
  have hr0 := hr
  obtain ⟨hlt, cur, ety, k1, k2, k3, k5⟩ := hr
  simp only at k3 k5
  have hcell : w.cell? ⟨q.block, q.off + o, none⟩ = some (cur[q.off + o]'(by omega)) := by
    have : q.off + o < cur.size := by omega
    simp [World.cell?, k1, this]
  have hfro : w.frozen? ⟨q.block, q.off + o, none⟩ = false := by
    simp only [World.frozen?, k1, Bool.and_eq_false_iff, decide_eq_false_iff_not]
    left
    omega
  have hset := setCell_eq_setRow w q.block (q.off + o) cur ety (cur.size, cur.size + 1) (.int k z) k1
  have hrun : (Instr.storeAt ty (b.eval x) (b.eval y)).run P w = .ok () (w.setRow q.block (cur.setIfInBounds (q.off + o) (.int k z))) := by
    rw [ex, ey]
    simp [Instr.storeAt, Instr.sureAddr, storeVar, run_sizeOf' hz, Value.cells, storeCells, Addr.add_lit, run_store P w ⟨q.block, q.off + o, none⟩ (.int k z) _ rfl, hcell, hfro, hset]
  have hsz : (w.setRow q.block (cur.setIfInBounds (q.off + o) (.int k z))).heap.size = w.heap.size := by simp [World.setRow]
  have hot : ∀ j, j ≠ q.block → (w.setRow q.block (cur.setIfInBounds (q.off + o) (.int k z))).heap[j]? = w.heap[j]? := fun j hj => by
    simp only [World.setRow, Array.getElem?_modify]
    rw [if_neg (Ne.symm hj)]
  have hm' : MRep base R (m.set a (some { cells := c.set o (.int k z), kind := .str, size := sz })) (w.setRow q.block (cur.setIfInBounds (q.off + o) (.int k z))) := by
    refine hm.turn hb rfl hq _ rfl ?_ hot hsz
    refine ⟨by rw [hsz]; exact hlt, cur.setIfInBounds (q.off + o) (.int k z), ety, ?_, k2, ?_, fun j v hj => ?_⟩
    · rw [Array.size_setIfInBounds]
      exact setRow_heap w q.block cur _ ety _ k1
    · simp only [List.length_set, Array.size_setIfInBounds]
      exact k3
    · simp only at hj
      by_cases e : o = j
      · subst e
        rw [List.getElem?_set_self ho] at hj
        injection hj with hj
        subst hj
        exact ⟨_, by rw [Array.getElem?_setIfInBounds_self_of_lt (by omega)], .int _ _, rfl⟩
      · rw [List.getElem?_set_ne e] at hj
        obtain ⟨v', r1, r2⟩ := k5 j v hj
        exact ⟨v', by rw [Array.getElem?_setIfInBounds_ne (by omega)]; exact r1, r2⟩
  refine wp_of_does rfl (.inr ⟨by simp [execOp, hrun], rfl⟩) (hn' R undef _ _ _ (.undef R) ⟨.refl R, hm', rfl, rfl, rfl, by rw [hsz]; exact Nat.le_refl _, fun j hj ho' => ?_, fun j ho' => .inr ?_⟩ hK)
  · exact hot j fun e => ho' ⟨a, _, q, hb, rfl, hq, e.symm⟩
  · obtain ⟨i, c', p', q1, q2, q3, q4⟩ := ho'
    by_cases e : a = i
    · subst e
      exact ⟨a, _, p', hb, rfl, q3, q4⟩
    · rw [List.getElem?_set_ne e] at q1
      exact ⟨i, c', p', q1, q2, q3, q4⟩
end
end Go.Proofs.YtibhgdglbillaaaDoor.Abs
namespace Go.Proofs.YtibhgdglbillaaaDoor.Abs
set_option linter.unusedSimpArgs false
set_option linter.unusedVariables false
open Go.RowKit
open Go.Proofs.YtibhgdglbillaaaDoor.Sim
open Go.Proofs
theorem un40 : Tryd.prog.underlying 40 = some (.slice 5) := by kernel_rfl
theorem un30 : Tryd.prog.underlying 30 = some (.slice 9) := by kernel_rfl
theorem el30 : elemB Tryd.prog 30 = some (9, 1, 16, #[.string ByteArray.empty]) := by kernel_rfl
end Go.Proofs.YtibhgdglbillaaaDoor.Abs
namespace Go.Proofs.YtibhgdglbillaaaDoor.Abs
set_option linter.unusedSimpArgs false
set_option linter.unusedVariables false
open Go.RowKit
open Go.Proofs.YtibhgdglbillaaaDoor.Sim
open Go.Proofs
theorem bs30w {m : AM} {k : Nat} {x : ByteArray} : abuildSlice Tryd.prog m k 30 1 [(0, .string x)] = some (.slice (some ⟨k, 0, none⟩) 1 1, m.set k (some { cells := [.string x] })) := by kernel_rfl
end Go.Proofs.YtibhgdglbillaaaDoor.Abs
namespace Go.Proofs.YtibhgdglbillaaaDoor.Abs
set_option linter.unusedSimpArgs false
set_option linter.unusedVariables false
open Go.RowKit
open Go.Proofs.YtibhgdglbillaaaDoor.Sim
open Go.Proofs
/-- Pieces in a row of one's own. -/
def PP (M : AM) (b0 : Nat) (u : Value) (l : List Plc) : Prop := Row M b0 6 u (plc l) l.length
theorem PP.nil {M : AM} {b0 : Nat} : PP M b0 (.slice none 0 0) [] := Row.nil
end Go.Proofs.YtibhgdglbillaaaDoor.Abs
namespace Go.Proofs.YtibhgdglbillaaaDoor.Abs
set_option linter.unusedSimpArgs false
set_option linter.unusedVariables false
open Go.RowKit
open Go.Proofs.YtibhgdglbillaaaDoor.Sim
open Go.ChangeShapes Go.WideShapes Go.Deep
def RelSelf (v : Value) : Prop := ∃ c, v = .agg c ∧ ∀ R, Rel R (.agg c) (.agg c)
def Okarg3 (W : World) (a : AR) : Prop := Okarg W a ∨ RelSelf a.1
theorem top_call3 {P : Program} {f : FuncId} {W : World} (ars : List AR) (h : ∀ a ∈ ars, Okarg3 W a) (hc : ACall P f (mkVs 0 ars).toArray (ars.map mkB) (Ret (.bool true) (ars.map mkB))) :
    Calls P f (ars.map (·.1)).toArray W fun e w' => e = .returned (.bool true) ∧ Below W.heap.size W w' := by
  let R : Pl := fun i => (ars[i]?).bind mkP
  have hm : MRep W.heap.size R (ars.map mkB) W := by
    refine ⟨fun i hi => ?_, fun i b hi => ?_, fun i j b c p q hi hj hb _ _ _ _ => ?_⟩
    · simp only [List.length_map] at hi
      simp [R, List.getElem?_eq_none hi]
    · rw [List.getElem?_map] at hi
      cases ha : ars[i]? with
      | none => rw [ha] at hi; cases hi
      | some a =>
        rw [ha] at hi
        simp only [Option.map_some, Option.some.injEq] at hi
        obtain ⟨v, c⟩ := a
        rcases h _ (List.mem_of_getElem? ha) with (h1 | ⟨bb, o, n, cap, h1, h2, h3, h4, h5⟩) | ⟨l, h1, hl⟩
        · simp only at h1
          cases v with
          | slice x n cap => cases x with
            | none => simp [mkB] at hi
            | some x => simp [g0] at h1
          | _ => simp [mkB] at hi
        · simp only at h1
          subst h1
          simp only [mkB, Option.some.injEq] at hi
          subst hi
          refine ⟨⟨bb, o, cap - n⟩, by simp [R, ha, mkP], h3, ?_⟩
          refine ⟨fun e => by simp at e, fun j x hj => ⟨x, h4 j x hj, g0_rel (h5 x (List.mem_of_getElem? hj))⟩⟩
        · simp only at h1
          subst h1
          simp [mkB] at hi
    · rw [List.getElem?_map] at hi
      cases ha : ars[i]? with
      | none => rw [ha] at hi; cases hi
      | some a =>
        rw [ha] at hi
        simp only [Option.map_some, Option.some.injEq] at hi
        obtain ⟨v, c'⟩ := a
        cases v with
        | slice x n cap => cases x with
          | none => simp [mkB] at hi
          | some x => simp only [mkB, Option.some.injEq] at hi; subst hi; cases hb
        | _ => simp [mkB] at hi
  have hargs : Rels R (mkVs 0 ars).toArray (ars.map (·.1)).toArray := by
    refine ⟨by simp [mkVs_len], fun i hi => ?_⟩
    simp only [List.size_toArray, mkVs_len] at hi
    have ha : ars[i]? = some ars[i] := List.getElem?_eq_getElem hi
    have e1 : (mkVs 0 ars).toArray.getD i undef = mkV i ars[i].1 := by
      simp [mkVs_get, ha]
    have e2 : (ars.map (·.1)).toArray.getD i undef = ars[i].1 := by simp [hi]
    rw [e1, e2]
    generalize ars[i] = a at ha
    obtain ⟨v, c⟩ := a
    rcases h _ (List.mem_of_getElem? ha) with (h1 | ⟨bb, o, n, cap, h1, h2, h3, h4, h5⟩) | ⟨l, h1, hl⟩
    · simp only at h1 ⊢
      cases v with
      | slice x n cap => cases x with
        | none => exact g0_rel h1
        | some x => simp [g0] at h1
      | _ => exact g0_rel h1
    · simp only at h1 ⊢
      subst h1
      have := Rel.slice (R := R) i 0 n n ⟨bb, o, cap - n⟩ (by simp [R, ha, mkP]) (Nat.le_refl _)
      rw [show n + (cap - n) = cap by omega] at this
      simpa [mkV] using this
    · simp only at h1 ⊢
      subst h1
      exact hl R
  refine (hc W.heap.size R W _ (Nat.le_refl _) hm hargs).mono ?_
  rintro e w' ⟨v, v', R', m', rfl, k1, k2, rfl, rfl⟩
  cases k1
  exact ⟨rfl, k2.below hm (Nat.le_refl _)⟩
theorem RelSelf.rect (r : Rc) : RelSelf r.v := ⟨_, rfl, fun R => rel_aggI R [r.x, r.y, r.w, r.h]⟩
theorem RelSelf.kind (k : Kd) : RelSelf k.v := ⟨_, rfl, fun R => .agg _ _ rfl fun i hi => by
  simp at hi
  rcases (show i = 0 ∨ i = 1 ∨ i = 2 ∨ i = 3 ∨ i = 4 by omega) with rfl | rfl | rfl | rfl | rfl
  · exact .int _ _
  · exact .int _ _
  · exact .int _ _
  · exact .int _ _
  · exact .bool _⟩
def sv (l : List ByteArray) : List Value := l.map .string
def kb (y : List Int × Bool) : List Value := iv y.1 ++ [.bool y.2]
theorem g0_kb (y : List Int × Bool) : ∀ v ∈ kb y, g0 v = true := fun v hv => by
  rcases List.mem_append.1 hv with h | h
  · exact g0_iv _ v h
  · simp at h; subst h; rfl
def kindB (P : Program) (f : Field) : Bool := match P.underlying f.type with | some .bool => true | _ => false
def kindI (P : Program) (f : Field) : Bool := match P.underlying f.type with | some (.int .i64) => true | _ => false
def fieldsKB (P : Program) (fs : Array Field) (q : Nat) : Bool := (List.range q).all (fun j => match fs[j]? with | some f => kindI P f | none => false) && match fs[q]? with | some f => kindB P f | none => false
theorem fieldsKB_int {P : Program} {fs : Array Field} {q j : Nat} {f : Field} (h : fieldsKB P fs q = true) (hj : fs[j]? = some f) (hq : j < q) : P.underlying f.type = some (.int .i64) := by
  simp only [fieldsKB, Bool.and_eq_true] at h
  have := List.all_eq_true.1 h.1 j (List.mem_range.2 hq)
  rw [hj] at this
  simp only [kindI] at this
  split at this
  · assumption
  · cases this
theorem fieldsKB_bool {P : Program} {fs : Array Field} {q : Nat} {f : Field} (h : fieldsKB P fs q = true) (hj : fs[q]? = some f) : P.underlying f.type = some .bool := by
  simp only [fieldsKB, Bool.and_eq_true] at h
  have := h.2
  rw [hj] at this
  simp only [kindB] at this
  split at this
  · assumption
  · cases this
section
variable {H : Type} {enc : TypeId × Value → H} {P : Program} {w : World} {base : Nat} {spare : Nat → Bool} {held : Bool}
theorem arg_strs {r : Reach} {b0 : Nat} {T e : TypeId} {a : Option Addr} {n c : Nat} {d : DataW H} {p : List MemPlace} (ht : P.underlying T = some (.slice e)) (he : P.underlying e = some .string) (hce : P.cellsOf e = 1) (hok : Value.okWide P w r b0 T (.slice a n c)) (h : DataW.Trod enc P w base spare held T (.slice a n c) d p) :
    ∃ l : List ByteArray, l.length = n ∧ n ≤ maxLen ∧ Okarg w (.slice a n c, sv l) ∧ ∀ M : AM, ∀ i, M[i]? = some (mkB (.slice a n c, sv l)) → Strs M (mkV i (.slice a n c)) l := by
  obtain ⟨fuel, h⟩ := h
  rcases ok_slice ht hok with ⟨rfl, rfl, rfl⟩ | ⟨b, o, rfl, hle, hlt⟩
  · exact ⟨[], rfl, by unfold maxLen; omega, .inl rfl, fun M i hi => ⟨i, 0, .inl ⟨rfl, rfl⟩, (List.getElem?_eq_some_iff.1 hi).1, fun k hk => by simp at hk⟩⟩
  · rcases open_strs ht he hce h with ⟨hcs, _⟩ | ⟨x, l, cap, m, S, hcs, _, hl, hm, hmm, _, hcell⟩
    · simp [Value.cells] at hcs
    · simp [Value.cells] at hcs
      obtain ⟨rfl, rfl, rfl⟩ := hcs
      have hnm : n ≤ m := by rw [hmm]; split <;> omega
      refine ⟨(List.range n).map S, by simp, by omega, .inr ⟨b, o, n, c, rfl, hle, hlt, fun j x hj => ?_, fun x hx => ?_⟩, fun M i hM => ?_⟩
      · have hjl := (List.getElem?_eq_some_iff.1 hj).1
        simp [sv] at hjl
        have := (hcell j (by omega)).1
        rw [Addr.add_lit] at this
        rw [this]
        simpa [sv, hjl] using hj
      · simp [sv] at hx
        obtain ⟨k, _, rfl⟩ := hx
        rfl
      · simp only [mkB] at hM
        refine ⟨i, 0, by simpa [mkV] using Sl.mk (Nat.le_refl n), (List.getElem?_eq_some_iff.1 hM).1, fun k hk => ⟨_, hM, ?_⟩⟩
        simp at hk
        simp [sv, rowOf, hk]
theorem arg_kb {r : Reach} {b0 : Nat} {T e : TypeId} {fs : Array Field} {a : Option Addr} {n c : Nat} {d : DataW H} {p : List MemPlace} (ht : P.underlying T = some (.slice e)) (he : P.underlying e = some (.struct fs)) (hone : oneCellFields P fs = true) (hC : P.cellsOf e = fs.size)
    {q : Nat} (hq : fs.size = q + 1) (hi : fieldsKB P fs q = true) (hok : Value.okWide P w r b0 T (.slice a n c)) (h : DataW.Trod enc P w base spare held T (.slice a n c) d p) :
    ∃ F : Nat → List Int × Bool, (∀ k, (F k).1.length = q) ∧ n ≤ maxLen ∧ Okarg w (.slice a n c, (List.range n).flatMap fun k => kb (F k)) ∧ (∀ M : AM, ∀ i, M[i]? = some (mkB (.slice a n c, (List.range n).flatMap fun k => kb (F k))) → Sl (mkV i (.slice a n c)) i 0 n ∧ i < M.length ∧ ∀ k, k < n → RdL M i (0 + k * fs.size) (kb (F k))) := by
  obtain ⟨fuel, h⟩ := h
  rcases ok_slice ht hok with ⟨rfl, rfl, rfl⟩ | ⟨b, o, rfl, hle, hlt⟩
  · exact ⟨fun _ => (List.replicate q 0, false), fun _ => by simp, by unfold maxLen; omega, .inl rfl, fun M i hi => ⟨.inl ⟨rfl, rfl⟩, (List.getElem?_eq_some_iff.1 hi).1, fun k hk => by omega⟩⟩
  · rcases open_slice_fields ht he hone hC h with ⟨hcs, _⟩ | ⟨x, l, cap, m, D, Pl, hcs, _, hl, hm, hmm, _, hrow⟩
    · simp [Value.cells] at hcs
    · simp [Value.cells] at hcs
      obtain ⟨rfl, rfl, rfl⟩ := hcs
      have key : ∀ k : Nat, ∃ y : List Int × Bool, y.1.length = q ∧ (k < n → ∀ j v, (kb y)[j]? = some v → w.cell? ⟨b, o + (k * fs.size + j), none⟩ = some v) := fun k => by
        by_cases hk : k < n
        · obtain ⟨ys, nn, _, _, _, hf⟩ := hrow k (by rw [hmm]; split <;> omega)
          have key2 : ∀ j : Nat, ∃ z : Int, j < q → w.cell? ⟨b, o + (k * fs.size + j), none⟩ = some (.int .i64 z) := fun j => by
            by_cases hj : j < q
            · obtain ⟨v, y, h1, _, h3⟩ := hf j fs[j] (Array.getElem?_eq_getElem (by omega))
              obtain ⟨z, hz, _⟩ := DataW.trod_int (fieldsKB_int hi (Array.getElem?_eq_getElem (by omega)) hj) h3
              simp at hz
              subst hz
              rw [Addr.add_lit] at h1
              exact ⟨z, fun _ => h1⟩
            · exact ⟨0, fun h => absurd h hj⟩
          obtain ⟨g, hg⟩ := Classical.axiomOfChoice key2
          obtain ⟨v, y, h1, _, h3⟩ := hf q (fs[q]'(by omega)) (Array.getElem?_eq_getElem (by omega))
          obtain ⟨z, hz, _⟩ := DataW.trod_bool (fieldsKB_bool hi (Array.getElem?_eq_getElem (by omega))) h3
          simp at hz
          subst hz
          rw [Addr.add_lit] at h1
          refine ⟨((List.range q).map g, z), by simp, fun _ j v hj => ?_⟩
          unfold kb at hj
          rcases Nat.lt_trichotomy j q with h | rfl | h
          · rw [List.getElem?_append_left (by simpa [iv] using h), iv_get (by simpa using h)] at hj
            injection hj with hj
            rw [hg j h, ← hj]
            simp [h]
          · rw [List.getElem?_append_right (by simp [iv])] at hj
            simp [iv] at hj
            rw [← hj]; exact h1
          · rw [List.getElem?_eq_none (by simp [iv]; omega)] at hj
            cases hj
        · exact ⟨(List.replicate q 0, false), by simp, fun h => absurd h hk⟩
      obtain ⟨F, hF⟩ := Classical.axiomOfChoice key
      have hlenF : ∀ k, (kb (F k)).length = fs.size := fun k => by unfold kb; rw [List.length_append, iv_len, (hF k).1, hq]; rfl
      have get : ∀ q, ∀ k, k < q → ∀ j v, (kb (F k))[j]? = some v → ((List.range q).flatMap fun k => kb (F k))[k * fs.size + j]? = some v := by
        intro q
        induction q with
        | zero => intro k hk; omega
        | succ q ih =>
          intro k hk j v hj
          have hjl : j < fs.size := by
            have := (List.getElem?_eq_some_iff.1 hj).1
            rwa [hlenF] at this
          have hql : ((List.range q).flatMap fun k => kb (F k)).length = q * fs.size := by
            clear ih hk hj
            induction q with
            | zero => simp
            | succ q ih2 => rw [List.range_succ, List.flatMap_append, List.length_append, ih2]; simp [hlenF, Nat.add_mul]
          rw [List.range_succ, List.flatMap_append]
          rcases Nat.lt_succ_iff_lt_or_eq.1 hk with h' | h'
          · have h2 : k * fs.size + fs.size ≤ q * fs.size := by
              have := Nat.mul_le_mul_right fs.size (show k + 1 ≤ q by omega)
              rw [Nat.add_mul] at this; omega
            rw [List.getElem?_append_left (by rw [hql]; omega)]
            exact ih k h' j v hj
          · subst h'
            rw [List.getElem?_append_right (by rw [hql]; omega), hql, Nat.add_sub_cancel_left]
            simpa using hj
      have tot : ∀ q, ((List.range q).flatMap fun k => kb (F k)).length = q * fs.size := fun q => by
        induction q with
        | zero => simp
        | succ q ih2 => rw [List.range_succ, List.flatMap_append, List.length_append, ih2]; simp [hlenF, Nat.add_mul]
      refine ⟨F, fun k => (hF k).1, by omega, .inr ⟨b, o, n, c, rfl, hle, hlt, fun j x hj => ?_, fun x hx => ?_⟩, fun M i hM => ?_⟩
      · have hjl := (List.getElem?_eq_some_iff.1 hj).1
        simp only at hjl hj
        rw [tot] at hjl
        have hs : 0 < fs.size := by
          rcases Nat.eq_zero_or_pos fs.size with h0 | h0
          · rw [h0] at hjl; omega
          · exact h0
        have hk : j / fs.size < n := (Nat.div_lt_iff_lt_mul hs).2 hjl
        have hr : j % fs.size < fs.size := Nat.mod_lt _ hs
        have e : j = j / fs.size * fs.size + j % fs.size := by rw [Nat.mul_comm]; exact (Nat.div_add_mod j fs.size).symm
        obtain ⟨v, hv⟩ : ∃ v, (kb (F (j / fs.size)))[j % fs.size]? = some v := ⟨_, List.getElem?_eq_getElem (by rw [hlenF]; exact hr)⟩
        have h1 := get n (j / fs.size) hk (j % fs.size) v hv
        rw [← e] at h1
        rw [h1] at hj
        injection hj with hj
        have h2 := (hF (j / fs.size)).2 hk (j % fs.size) v hv
        rw [← e] at h2
        rw [h2, hj]
      · obtain ⟨k, _, hk⟩ := List.mem_flatMap.1 hx
        exact g0_kb _ x hk
      · simp only [mkB] at hM
        refine ⟨Sl.mk (Nat.le_refl _), (List.getElem?_eq_some_iff.1 hM).1, fun k hk => ⟨_, hM, fun j v hj => ?_⟩⟩
        rw [Nat.zero_add]
        exact get n k hk j v hj
def kv (l : List Kd) : List Value := l.flatMap Kd.cells
theorem arg_kinds {r : Reach} {b0 : Nat} {T e : TypeId} {fs : Array Field} {a : Option Addr} {n c : Nat} {d : DataW H} {p : List MemPlace} (ht : P.underlying T = some (.slice e)) (he : P.underlying e = some (.struct fs)) (hone : oneCellFields P fs = true) (hC : P.cellsOf e = fs.size)
    (hq : fs.size = 4 + 1) (hi : fieldsKB P fs 4 = true) (hok : Value.okWide P w r b0 T (.slice a n c)) (h : DataW.Trod enc P w base spare held T (.slice a n c) d p) :
    ∃ l : List Kd, l.length = n ∧ n ≤ maxLen ∧ Okarg w (.slice a n c, kv l) ∧ ∀ M : AM, ∀ i, M[i]? = some (mkB (.slice a n c, kv l)) → Kds M (mkV i (.slice a n c)) l := by
  obtain ⟨F, h1, h2, h3, h4⟩ := arg_kb ht he hone hC hq hi hok h
  have key : ∀ k, ∃ x : Kd, kb (F k) = x.cells := fun k => by
    have hk := h1 k
    generalize F k = y at hk ⊢
    obtain ⟨l, b⟩ := y
    simp only at hk
    match l, hk with
    | [x, y, z, u], _ => exact ⟨⟨x, y, z, u, b⟩, rfl⟩
  obtain ⟨G, hG⟩ := Classical.axiomOfChoice key
  have e : ((List.range n).flatMap fun k => kb (F k)) = kv ((List.range n).map G) := by
    unfold kv
    rw [List.flatMap_map]
    congr 1
    funext k
    exact hG k
  rw [e] at h3 h4
  refine ⟨(List.range n).map G, by simp, h2, h3, fun M i hM => ?_⟩
  obtain ⟨k1, k2, k3⟩ := h4 M i hM
  refine ⟨i, 0, by simpa using k1, k2, fun k hk => ?_⟩
  simp at hk
  have := k3 k hk
  rw [hq, hG k] at this
  have eg : ((List.range n).map G).getD k default = G k := by simp [hk]
  rw [eg]
  exact this
end
end Go.Proofs.YtibhgdglbillaaaDoor.Abs
namespace Go.Proofs.YtibhgdglbillaaaDoor.Abs
set_option linter.unusedSimpArgs false
set_option linter.unusedVariables false
open Go.RowKit
open Go.Proofs.YtibhgdglbillaaaDoor.Sim
open Go.Proofs
theorem sv_get (B : Brd) {y : Nat} (h : y < B.length) : (sv B)[y]? = some (.string (rowOf B y)) := by
  unfold sv rowOf
  rw [getD_in _ _ h]
  simp [h]
theorem row_strs {M : AM} {b0 n : Nat} {u : Value} {B : Brd} (h : Row M b0 1 u (sv B) n) (hn : n = B.length) (hM : 0 < M.length) : Strs M u B := by
  subst hn
  obtain ⟨a, h1, h2, h3⟩ := Row.sl h hM
  refine ⟨a, 0, h1, h2, fun y hy => ?_⟩
  have := (h3 (by omega)).at_ y (sv_get B hy)
  exact this
section
variable {nt : Nat} {ops : Array Oper} {t : Fm} {m : AM} {K : Fm → AM → Prop} {d T : Nat} {p : String} {af : Array Edge}
end
end Go.Proofs.YtibhgdglbillaaaDoor.Abs
namespace Go.Proofs.YtibhgdglbillaaaDoor.Abs
set_option linter.unusedSimpArgs false
set_option linter.unusedVariables false
open Go.RowKit
open Go.Proofs.YtibhgdglbillaaaDoor.Sim
open Go.Proofs
theorem el31 : elemB Tryd.prog 31 = some (33, 5, 40, #[.int .i64 0, .int .i64 0, .int .i64 0, .int .i64 0, .bool false]) := by kernel_rfl
theorem un31 : Tryd.prog.underlying 31 = some (.slice 33) := by kernel_rfl
theorem bs31e {m : AM} {k : Nat} : abuildSlice Tryd.prog m k 31 0 [] = some (.slice (some ⟨k, 0, none⟩) 0 0, m.set k (some { cells := [] })) := by kernel_rfl
theorem bs31 {m : AM} {k : Nat} {x y z u : Int} {c : Bool} : abuildSlice Tryd.prog m k 31 1 [(0, .agg #[.int .i64 x, .int .i64 y, .int .i64 z, .int .i64 u, .bool c])] = some (.slice (some ⟨k, 0, none⟩) 1 1, m.set k (some { cells := [.int .i64 x, .int .i64 y, .int .i64 z, .int .i64 u, .bool c] })) := by kernel_rfl
theorem kds_rdl {m : AM} {a : Nat} : ∀ (K : List Kd) (o : Nat), 0 < K.length → (∀ i, i < K.length → RdL m a (o + i * 5) (K.getD i default).cells) → RdL m a o (kvc K)
  | [], _, h, _ => by simp at h
  | k :: K, o, _, rd => by
    have r0 := rd 0 (by simp)
    rw [Nat.zero_mul, Nat.add_zero] at r0
    obtain ⟨b, k1, k2⟩ := r0
    refine ⟨b, k1, fun j v hj => ?_⟩
    have e : kvc (k :: K) = k.cells ++ kvc K := rfl
    have e5 : k.cells.length = 5 := rfl
    rw [e] at hj
    rcases Nat.lt_or_ge j 5 with hlt | hge
    · rw [List.getElem?_append_left (by rw [e5]; exact hlt)] at hj
      exact k2 j v hj
    · rw [List.getElem?_append_right (by rw [e5]; exact hge), e5] at hj
      have hK : 0 < K.length := by
        cases K with
        | nil => simp [kvc] at hj
        | cons x K => simp
      obtain ⟨b', q1, q2⟩ := kds_rdl K (o + 5) hK fun i hi => by
        have := rd (i + 1) (by simpa using hi)
        rw [show o + 5 + i * 5 = o + (i + 1) * 5 by omega]
        simpa using this
      rw [k1] at q1
      injection q1 with q1
      injection q1 with q1
      subst q1
      have := q2 (j - 5) v hj
      rwa [show o + 5 + (j - 5) = o + j by omega] at this
theorem row_kds {M : AM} {b0 n : Nat} {u : Value} {K : List Kd} (h : Row M b0 5 u (kvc K) n) (hn : n = K.length) (hM : 0 < M.length) : Kds M u K := by
  subst hn
  obtain ⟨a, h1, h2, h3⟩ := Row.sl h hM
  refine ⟨a, 0, h1, h2, fun i hi => ?_⟩
  obtain ⟨b, k1, k2⟩ := h3 (by omega)
  refine ⟨b, k1, fun j v hj => ?_⟩
  have := k2 _ v (kvc_get K i hi j v hj)
  rw [Nat.zero_add] at this ⊢
  exact this
set_option maxHeartbeats 4000000 in
set_option maxRecDepth 100000 in
theorem CloneK_ok {m : AM} {kv : Value} {K : List Kd} (hk : Kds m kv K) (hlen : K.length ≤ 1000) : ACall Tryd.prog 25 #[kv] m (More (fun M u => Row M m.length 5 u (kvc K) K.length) m) := by
  obtain ⟨A, O, sl, la, rd⟩ := hk
  have sl' := sl
  have fin : ∀ (v : Value), v = kv → (∃ q n c, kv = .slice (some q) n c) → ACall Tryd.prog 25 #[kv] m (More (fun M u => Row M m.length 5 u (kvc K) K.length) m) := fun v _ ⟨q, n, c, e⟩ => by
    subst e
    refine ACall.start Tryd.func25 rfl rfl ?_
    (repeat (first | (with_reducible refine AWo.cons ?_) | ((with_reducible refine Step.id ?_); first | ((with_reducible apply Step.move); exact rfl; exact rfl) | ((with_reducible apply Step.assign); exact rfl; exact rfl) | ((with_reducible apply Step.eqNil); exact rfl; exact rfl; exact un31; exact rfl) | ((with_reducible apply Step.buildS 0); exact rfl; exact rfl; exact (fun _ _ => bs31e); exact rfl; (focus (first | (simp only [List.nil_append, List.cons_append, List.set_cons_zero, List.set_cons_succ, iv_set, bv_set, iv_rep, bv_rep]; done) | (simp only [List.nil_append, List.cons_append, List.set_cons_zero, List.set_cons_succ, iv_set, bv_set, iv_rep, bv_rep]; rfl) | rfl)))) | (with_reducible refine AWo.nil ?_) | ((with_reducible apply AW.seq)) | ((with_reducible apply Then.n)) | ((with_reducible apply AW.regL)) | ((with_reducible apply AW.skip)) | ((with_reducible apply AW.condF); exact rfl; (focus (rfl)))))
    ((with_reducible apply Step.appRow (s := 5) (n := 0) (xl := K.length) (b0 := m.length) (c := [])); exact rfl; exact rfl; exact (.inr ⟨m.length + 0, .own, 1, by omega, rfl, by rw [get_app]; rfl, rfl, .inl rfl⟩); exact sl'; exact (fun h => (kds_rdl K O h rd).old _); exact el31; exact un31; (focus (rw [kvc_len])); exact (kvc_one K); exact rfl; (focus (omega)); exact rfl; (focus (simp)))
    intro u' M' hrow hl hkeep
    (repeat (first | (with_reducible refine AWo.cons ?_) | ((with_reducible refine Step.id ?_); ((with_reducible apply Step.assign); exact rfl; exact rfl)) | (with_reducible refine AWo.nil ?_) | ((with_reducible apply Then.n))))
    (refine AW.ret ?_; (repeat (first | refine Then.r ?_ | refine InBlk.r ?_)))
    obtain ⟨N, hN⟩ : ∃ N, M' = m ++ N := pre_keep ⟨_, rfl⟩ hl fun j hj => hkeep j (by rw [List.length_append]; omega) (fun n c e => by injection e with e _ _; injection e with e; injection e with e _ _; omega)
    exact ⟨_, rfl, N, hN, by rw [List.nil_append, Nat.zero_add] at hrow; exact hrow⟩
  rcases sl with ⟨rfl, h0⟩ | ⟨c, hc, rfl⟩ | ⟨h0, o', k, rfl⟩
  · obtain rfl : K = [] := List.eq_nil_of_length_eq_zero h0
    refine ACall.start Tryd.func25 rfl rfl ?_
    (repeat (first | (with_reducible refine AWo.cons ?_) | ((with_reducible refine Step.id ?_); first | ((with_reducible apply Step.move); exact rfl; exact rfl) | ((with_reducible apply Step.assign); exact rfl; exact rfl) | ((with_reducible apply Step.nilNil); exact rfl; exact rfl; exact un31; exact rfl)) | (with_reducible refine AWo.nil ?_) | ((with_reducible apply AW.seq)) | ((with_reducible apply Then.n)) | ((with_reducible apply AW.regL)) | ((with_reducible apply AW.condT); exact rfl; (focus (rfl)))))
    (refine AW.ret ?_; (repeat (first | refine Then.r ?_ | refine InBlk.r ?_)))
    exact ⟨_, rfl, [], rfl, Row.nil⟩
  · exact fin _ rfl ⟨_, _, _, rfl⟩
  · exact fin _ rfl ⟨_, _, _, rfl⟩
/-- The memory of which one row holds these bytes. -/
def MS (m : AM) (a : Nat) (l : List UInt8) : AM := m.set a (some { cells := by8 l, kind := .str, size := 1 })
theorem MS.get {m : AM} {a : Nat} (h : a < m.length) (l : List UInt8) : (MS m a l)[a]? = some (some { cells := by8 l, kind := .str, size := 1 }) := List.getElem?_set_self h
theorem MS.set {m : AM} {a : Nat} (l k : List UInt8) : (MS m a l).set a (some { cells := by8 k, kind := .str, size := 1 }) = MS m a k := by
  unfold MS
  rw [List.set_set]
theorem MS.rd {m : AM} {a i : Nat} {l : List UInt8} {b : UInt8} (h : a < m.length) (hb : l[i]? = some b) : Rd (MS m a l) a i (.int .u8 (b.toNat : Nat)) := by
  have hi := (List.getElem?_eq_some_iff.1 hb).1
  refine ⟨_, MS.get h l, ?_⟩
  rw [by8_get hi]
  rw [List.getElem?_eq_getElem hi] at hb
  injection hb with hb
  rw [hb]
set_option maxHeartbeats 4000000 in
set_option maxRecDepth 100000 in
theorem Reverse_ok {m : AM} {a c : Nat} {l : List UInt8} (hm : m[a]? = some (some { cells := by8 l, kind := .str, size := 1 })) (hc : l.length ≤ c) (hlen : l.length ≤ 1000) :
    ACall Tryd.prog 27 #[.slice (some ⟨a, 0, none⟩) l.length c] m (fun v m' => v = .tuple #[] ∧ m' = MS m a l.reverse) := by
  have ha := (List.getElem?_eq_some_iff.1 hm).1
  have h0 : m = MS m a (revK l 0) := by
    unfold MS
    rw [revK_zero]
    apply List.ext_getElem?
    intro j
    by_cases e : a = j
    · subst e; rw [List.getElem?_set_self ha]; exact hm
    · rw [List.getElem?_set_ne e]
  have sl : Sl (.slice (some ⟨a, 0, none⟩) l.length c) a 0 l.length := .inr (.inl ⟨c, hc, rfl⟩)
  refine ACall.start Tryd.func27 rfl rfl ?_
  (repeat (first | (with_reducible refine AWo.cons ?_) | ((with_reducible refine Step.id ?_); first | ((with_reducible apply Step.move); exact rfl; exact rfl) | ((with_reducible apply Step.assign); exact rfl; exact rfl) | ((with_reducible apply Step.sub); exact rfl; exact rfl; (focus (omega)); exact rfl) | ((with_reducible apply Step.len); exact rfl; (focus (assumption)); (focus (decide +kernel)); exact rfl)) | (with_reducible refine AWo.nil ?_) | ((with_reducible apply AW.seq)) | ((with_reducible apply Then.n)) | ((with_reducible apply AW.regL)) | ((with_reducible apply AW.block))))
  refine AW.loopW (fun n t M => ∃ k : Nat, n = l.length - k ∧ 2 * k ≤ l.length + 1 ∧ M = MS m a (revK l k) ∧ t = fr [(0, .slice (some ⟨a, 0, none⟩) l.length c), (2, .int .i64 (k : Nat)), (3, .int .i64 ((l.length : Int) - 1 - (k : Nat)))])
    ⟨_, [(0, .slice (some ⟨a, 0, none⟩) l.length c), (2, .int .i64 0), (3, .int .i64 ((l.length : Int) - 1))], (by repeat (first | exact trivial | (refine And.intro rfl ?_))), 0, rfl, by omega, by rw [List.append_nil]; exact h0, by rw [show ((l.length : Int) - 1 - ((0 : Nat) : Int)) = (l.length : Int) - 1 by omega]; rfl⟩ ?_
  rintro n t M ⟨k, rfl, hk, rfl, rfl⟩
  by_cases hlt : 2 * k + 1 < l.length
  · have e1 : ((l.length : Int) - 1 - (k : Nat)) = ((l.length - 1 - k : Nat) : Int) := by omega
    have g1 := revK_get (l := l) (k := k) (i := k) (by omega) (by omega)
    have g2 := revK_get (l := l) (k := k) (i := l.length - 1 - k) (by omega) (by omega)
    have hst := revK_step hlt
    have r1 := MS.rd (m := m) ha g1
    have r2 := MS.rd (m := m) ha g2
    have hrl := revK_len (l := l) k
    generalize l.getD k default = b1 at *
    generalize l.getD (l.length - 1 - k) default = b2 at *
    generalize revK l k = w at *
    rw [e1]
    generalize hj : l.length - 1 - k = j at *
    have hkj : k < j := by omega
    (repeat (first | (with_reducible refine AWo.cons ?_) | ((with_reducible refine Step.id ?_); first | ((with_reducible apply Step.move); exact rfl; exact rfl) | ((with_reducible apply Step.load); exact rfl; (focus (decide +kernel)); exact rfl; (focus (assumption))) | ((with_reducible apply Step.ix1z); exact rfl; (focus (assumption)); exact rfl; (focus (decide +kernel)); exact rfl; (focus (omega))) | ((with_reducible apply Step.lss); exact rfl; exact rfl; exact rfl)) | (with_reducible refine AWo.nil ?_) | ((with_reducible apply AW.seq)) | ((with_reducible apply Then.n)) | ((with_reducible apply AW.regL)) | ((with_reducible apply AW.block)) | ((with_reducible apply AW.drawL fit); (focus (decide +kernel))) | ((with_reducible apply AW.skip)) | ((with_reducible apply AW.condT); exact rfl; (focus ((simp only [decide_eq_true_eq, decide_eq_false_iff_not, Bool.not_eq_true', Bool.not_eq_false', Bool.not_true, Bool.not_false]; first | assumption | omega))))))
    ((with_reducible apply Step.storeS); exact rfl; exact rfl; exact (MS.get ha w); (focus (decide +kernel)); (focus (rw [by8_len]; omega)))
    rw [by8_set, MS.set]
    (repeat (first | (with_reducible refine AWo.cons ?_) | ((with_reducible refine Step.id ?_); ((with_reducible apply Step.ix1z); exact rfl; (focus (assumption)); exact rfl; (focus (decide +kernel)); exact rfl; (focus (omega))))))
    ((with_reducible apply Step.storeS); exact rfl; exact rfl; exact (MS.get ha _); (focus (decide +kernel)); (focus (rw [by8_len, List.length_set]; omega)))
    rw [by8_set, MS.set, hst]
    (repeat (first | (with_reducible refine AWo.cons ?_) | ((with_reducible refine Step.id ?_); first | ((with_reducible apply Step.move); exact rfl; exact rfl) | ((with_reducible apply Step.assign); exact rfl; exact rfl) | ((with_reducible apply Step.add); exact rfl; exact rfl; (focus (omega)); exact rfl) | ((with_reducible apply Step.sub); exact rfl; exact rfl; (focus (omega)); exact rfl)) | (with_reducible refine AWo.nil ?_) | ((with_reducible apply Then.n)) | ((with_reducible apply AW.regL)) | ((with_reducible apply InBlk.n))))
    exact ⟨_, [(0, .slice (some ⟨a, 0, none⟩) l.length c), (2, .int .i64 (k + 1 : Nat)), (3, .int .i64 ((j : Int) - 1))], by omega, (by repeat (first | exact trivial | (refine And.intro rfl ?_))), k + 1, rfl, by omega, rfl, by rw [show ((j : Int) - 1) = (l.length : Int) - 1 - ((k + 1 : Nat) : Int) by omega]⟩
  · rw [revK_full (by omega)]
    (repeat (first | (with_reducible refine AWo.cons ?_) | ((with_reducible refine Step.id ?_); first | ((with_reducible apply Step.move); exact rfl; exact rfl) | ((with_reducible apply Step.lss); exact rfl; exact rfl; exact rfl)) | (with_reducible refine AWo.nil ?_) | ((with_reducible apply AW.seq)) | ((with_reducible apply Then.n)) | ((with_reducible apply AW.regL)) | ((with_reducible apply AW.exit)) | ((with_reducible apply InBlk.hit)) | ((with_reducible apply Then.e)) | ((with_reducible apply AW.condF); exact rfl; (focus ((simp only [decide_eq_true_eq, decide_eq_false_iff_not, Bool.not_eq_true', Bool.not_eq_false', Bool.not_true, Bool.not_false]; first | assumption | omega))))))
    exact ⟨_, rfl, rfl, rfl⟩
/-- A byte one greater. -/
theorem Step.addU {P : Program} {nt : Nat} {ops : Array Oper} {t : Fm} {m : AM} {K : Fm → AM → Prop} {d T : Nat} {p : String} {af : Array Edge} {X Y : TypeId} {x y : Operand} {a b : Int} (hx : evo t x = some (.int .u8 a)) (hy : evo t y = some (.int .u8 b)) (hr : 0 ≤ a + b ∧ a + b ≤ 255) (hlt : Nat.blt d nt = true) (hK : K (put t d (.int .u8 (a + b))) m) : Step P nt ops ⟨some d, .binOp .add X x y Y, T, p, af, none⟩ t m K :=
  .bin hx hy (by simp [aint, u8_in hr]) hlt hK
end Go.Proofs.YtibhgdglbillaaaDoor.Abs
namespace Go.Proofs.YtibhgdglbillaaaDoor.Abs
set_option linter.unusedSimpArgs false
set_option linter.unusedVariables false
open Go.RowKit
open Go.Proofs.YtibhgdglbillaaaDoor.Sim
open Go.Proofs
theorem pre_up {m M M' : AM} (h : ∃ N, M = m ++ N) (h' : ∃ N, M' = M ++ N) : ∃ N, M' = m ++ N := by
  obtain ⟨N, rfl⟩ := h
  obtain ⟨N', rfl⟩ := h'
  exact ⟨_, List.append_assoc _ _ _⟩
end Go.Proofs.YtibhgdglbillaaaDoor.Abs
namespace Go.Proofs.YtibhgdglbillaaaDoor.Abs
set_option linter.unusedSimpArgs false
set_option linter.unusedVariables false
open Go.RowKit
open Go.Proofs.YtibhgdglbillaaaDoor.Sim
open Go.Proofs
theorem good_kinds {B : Brd} {K : List Kd} (h : goodB B K = true) : kindsB K = true := by
  simp only [goodB, Bool.and_eq_true] at h
  exact h.2
theorem kindsB_kl {K : List Kd} (h : kindsB K = true) : K.length ≤ 12 := by
  simp only [kindsB, Bool.and_eq_true, decide_eq_true_eq] at h
  exact h.1
/-- The rows that are made: k of them. -/
def mirT (B : Brd) (k : Nat) : Brd := (B.take k).map mirS
theorem mirT_full (B : Brd) : mirT B B.length = mirB B := by unfold mirT mirB; rw [List.take_length]
theorem mirT_succ (B : Brd) {k : Nat} (h : k < B.length) : mirT B (k + 1) = mirT B k ++ [mirS (rowOf B k)] := by
  unfold mirT rowOf
  rw [take_snoc B k ByteArray.empty h]
  simp
def betT (B : Brd) (x y : Int) (k : Nat) : Brd := (List.range k).map fun i => betS (rowOf B i) (decide ((i : Int) = y) && decide (0 ≤ x)) x.toNat
theorem betT_full (B : Brd) (x y : Int) : betT B x y B.length = betB B x y := rfl
theorem betT_succ (B : Brd) (x y : Int) (k : Nat) : betT B x y (k + 1) = betT B x y k ++ [betS (rowOf B k) (decide ((k : Int) = y) && decide (0 ≤ x)) x.toNat] := by simp [betT, List.range_succ]
theorem sv_app (a : Brd) (s : ByteArray) : sv (a ++ [s]) = sv a ++ [.string s] := by simp [sv]
theorem bytes_eta (s : ByteArray) : (⟨s.data.toList.toArray⟩ : ByteArray) = s := by
  rcases s with ⟨d⟩
  simp
theorem Row.keep {M M' : AM} {b0 s : Nat} {u : Value} {c : List Value} {n : Nat} (h : Row M b0 s u c n) (hk : ∀ j, j < M.length → ¬ NotOf u j → M'[j]? = M[j]?) : Row M' b0 s u c n := by
  rcases h with h | ⟨a, kd, sz, h1, h2, h3, h4⟩
  · exact .inl h
  · refine .inr ⟨a, kd, sz, h1, h2, ?_, h4⟩
    rw [hk a (List.getElem?_eq_some_iff.1 h3).1 (fun hn => hn _ _ h2)]
    exact h3
theorem Row.notGe {M : AM} {b0 s : Nat} {u : Value} {c : List Value} {n j : Nat} (h : Row M b0 s u c n) (hj : M.length ≤ j) : NotOf u j := by
  rcases h with ⟨rfl, _⟩ | ⟨a, kd, sz, h1, rfl, h3, h4⟩
  · exact NotOf.nil
  · have := (List.getElem?_eq_some_iff.1 h3).1
    intro n' c' e
    simp only [Value.slice.injEq, Option.some.injEq, Addr.mk.injEq] at e
    omega
/-- One row of two grows: the other stays, and they stay apart. -/
theorem Row.other {M M' : AM} {b0 s s2 : Nat} {u u' w : Value} {c c2 : List Value} {n n2 : Nat} (hu : Row M b0 s u c n) (hw : Row M b0 s2 w c2 n2) (hd : Dis u w) (hk : ∀ j, j < M.length → NotOf u j → M'[j]? = M[j]?) (hn : ∀ j, j < M.length → NotOf u j → NotOf u' j) : Row M' b0 s2 w c2 n2 ∧ Dis u' w := by
  refine ⟨hw.keep fun j hj hnw => hk j hj ((hd j).resolve_right hnw), fun j => ?_⟩
  rcases Nat.lt_or_ge j M.length with hj | hj
  · rcases hd j with h | h
    · exact .inl (hn j hj h)
    · exact .inr h
  · exact .inr (hw.notGe hj)
theorem Dis.symm {u w : Value} (h : Dis u w) : Dis w u := fun j => (h j).symm
theorem row_pre {m M M' : AM} {s : Nat} {u : Value} {c : List Value} {n : Nat} (hp : ∃ N, M = m ++ N) (hr : Row M m.length s u c n) (hl : M.length ≤ M'.length) (hk : ∀ j, j < M.length → NotOf u j → M'[j]? = M[j]?) : ∃ N, M' = m ++ N :=
  pre_keep hp hl fun j hj => hk j (by obtain ⟨N, e⟩ := hp; rw [e, List.length_append]; omega) (NotOf.row hr hj)
set_option maxHeartbeats 16000000 in
set_option maxRecDepth 100000 in
theorem CutMore_ok {m : AM} {sv0 kv : Value} {B : Brd} {K : List Kd} {k : Kd} {x y : Int} (hs : Strs m sv0 B) (hk : Kds m kv K) (hkl : K.length ≤ 9223372036854775807) :
    ACall Tryd.prog 4 #[sv0, kv, k.v, .int .i64 x, .int .i64 y] m (Ret (.bool true) m) := by
  have h3 := fun T => of_ok (hk.old T) hkl
  have hM : 0 < m.length := by obtain ⟨A1, O1, sl1, la1, rd1⟩ := hs; omega
  have haw : ∀ M, ACall Tryd.prog 21 #[] M (Ret (.bool true) M) := fun M => awake_ok
  change ACall Tryd.prog 4 #[sv0, kv, .agg k.cells.toArray, .int .i64 x, .int .i64 y] m _
  cases hg : goodB B K with
  | false =>
    have hg' : goodB B (K.take 14) = false := by rw [good_take]; exact hg
    have hG := fun T => RGood_ok (hs.old T) (hk.old T)
    rw [hg] at hG
    refine ACall.start Tryd.func4 rfl rfl ?_
    (repeat (first | (with_reducible refine AWo.cons ?_) | ((with_reducible refine Step.id ?_); first | ((with_reducible apply Step.gdT); exact rfl; exact rfl; (focus (rfl))) | ((with_reducible apply Step.move); exact rfl; exact rfl) | ((with_reducible apply Step.assign); exact rfl; exact rfl) | ((with_reducible apply Step.eql); exact rfl; exact rfl; exact rfl) | ((with_reducible apply Step.not); exact rfl; exact rfl) | ((with_reducible apply Step.extract); exact rfl; exact rfl; exact rfl) | ((with_reducible apply Step.pickT); exact rfl; exact rfl; exact rfl; exact rfl; (focus (rfl))) | ((with_reducible apply Step.callG fit (k := 1)); exact rfl; exact rfl; exact Tryd.func23; exact rfl; exact rfl; exact (h3 _); (focus (first | (simp only [List.nil_append, List.cons_append, List.set_cons_zero, List.set_cons_succ, iv_set, bv_set, iv_rep, bv_rep]; done) | (simp only [List.nil_append, List.cons_append, List.set_cons_zero, List.set_cons_succ, iv_set, bv_set, iv_rep, bv_rep]; rfl) | rfl))) | ((with_reducible apply Step.callR fit); exact rfl; exact Tryd.func22; exact rfl; exact rfl; exact (Best_no (hs.old _) (kds_at (k := 1) (l := K.take 14) rfl) hg')) | ((with_reducible apply Step.callR fit); exact rfl; exact Tryd.func24; exact rfl; exact rfl; exact (hG _)) | ((with_reducible apply Step.callR fit); exact rfl; exact Tryd.func21; exact rfl; exact rfl; exact (haw _)) | ((with_reducible apply Step.box 0); exact rfl; exact rfl; (focus (kernel_rfl)); exact rfl; (focus (first | (simp only [List.nil_append, List.cons_append, List.set_cons_zero, List.set_cons_succ, iv_set, bv_set, iv_rep, bv_rep]; done) | (simp only [List.nil_append, List.cons_append, List.set_cons_zero, List.set_cons_succ, iv_set, bv_set, iv_rep, bv_rep]; rfl) | rfl)))) | (with_reducible refine AWo.nil ?_) | ((with_reducible apply AW.seq)) | ((with_reducible apply Then.n)) | ((with_reducible apply AW.regL)) | ((with_reducible apply AW.condT); exact rfl; (focus (rfl)))))
    (refine AW.retD (l := [(10, _)]) (by repeat (first | exact trivial | (refine And.intro ⟨rfl, by (exact .bool _)⟩ ?_))) ?_; (repeat (first | refine Then.r ?_ | refine InBlk.r ?_)))
    exact ⟨_, rfl, rfl, rfl⟩
  | true =>
    have et := good_len hg
    rw [et] at h3
    have hKb := good_kinds hg
    have hkl12 := kindsB_kl hKb
    have hgb : boardB B = true := by simp only [goodB, Bool.and_eq_true] at hg; exact hg.1
    have hin := good_in hgb
    have hb16 : B.length ≤ 16 := hin.2.1
    have S0 : ∀ M, (∃ N, M = m ++ N) → Strs M sv0 B := fun M ⟨N, e⟩ => by rw [e]; exact hs.old _
    have K0 : ∀ M, (∃ N, M = m ++ N) → Kds M kv K := fun M ⟨N, e⟩ => by rw [e]; exact hk.old _
    have O := fun M h T => of_ok ((K0 M h).old T) hkl
    rw [et] at O
    have hG := fun T => RGood_ok (hs.old T) (hk.old T)
    rw [hg] at hG
    obtain ⟨bm1, bm2⟩ := best_mir hg
    obtain ⟨bb1, bb2⟩ := best_bet hg x y
    have bk := best_kind hg k
    generalize hbst : bestM B K = bst at *
    refine ACall.drop (.bool _) ?_
    refine ACall.start Tryd.func4 rfl rfl ?_
    obtain ⟨kw, kh, kg, ko, kt⟩ := k
    (repeat (first | (with_reducible refine AWo.cons ?_) | ((with_reducible refine Step.id ?_); first | ((with_reducible apply Step.move); exact rfl; exact rfl) | ((with_reducible apply Step.assign); exact rfl; exact rfl) | ((with_reducible apply Step.not); exact rfl; exact rfl) | ((with_reducible apply Step.extract); exact rfl; exact rfl; exact rfl) | ((with_reducible apply Step.callG fit (k := 1)); exact rfl; exact rfl; exact Tryd.func23; exact rfl; exact rfl; exact (h3 _); (focus (first | (simp only [List.nil_append, List.cons_append, List.set_cons_zero, List.set_cons_succ, iv_set, bv_set, iv_rep, bv_rep]; done) | (simp only [List.nil_append, List.cons_append, List.set_cons_zero, List.set_cons_succ, iv_set, bv_set, iv_rep, bv_rep]; rfl) | rfl))) | ((with_reducible apply Step.callR fit); exact rfl; exact Tryd.func22; exact rfl; exact rfl; exact (Best_ok (hs.old _) (kds_at (k := 1) (l := K) rfl) hg)) | ((with_reducible apply Step.callR fit); exact rfl; exact Tryd.func24; exact rfl; exact rfl; exact (hG _)) | ((with_reducible apply Step.box 0); exact rfl; exact rfl; (focus (kernel_rfl)); exact rfl; (focus (first | (simp only [List.nil_append, List.cons_append, List.set_cons_zero, List.set_cons_succ, iv_set, bv_set, iv_rep, bv_rep]; done) | (simp only [List.nil_append, List.cons_append, List.set_cons_zero, List.set_cons_succ, iv_set, bv_set, iv_rep, bv_rep]; rfl) | rfl)))) | (with_reducible refine AWo.nil ?_) | ((with_reducible apply AW.seq)) | ((with_reducible apply Then.n)) | ((fail_if_success (with_reducible refine AW.atL (id := 4) ?_)); ((with_reducible apply AW.regL))) | ((with_reducible apply AW.skip)) | ((with_reducible apply AW.condF); exact rfl; (focus (rfl)))))
    refine AW.join (fun t' m' => ∃ u, (∃ N, m' = m ++ N) ∧ Row m' m.length 5 u (kvc (K ++ [⟨kw, kh, kg, ko, kt⟩])) (K.length + 1) ∧
      All (fun i v => t' i = some v) [(0, sv0), (1, kv), (3, .int .i64 x), (4, .int .i64 y), (11, .int .i64 bst), (12, .int .i64 0), (13, u)]) ?_ ?_
    · have hC := fun T => CloneK_ok (hk.old T) (by omega)
      have ek : kvc (K ++ [⟨kw, kh, kg, ko, kt⟩]) = kvc K ++ [.int .i64 kw, .int .i64 kh, .int .i64 kg, .int .i64 ko, .bool kt] := by simp [kvc, Kd.cells]
      rw [ek]
      have rb : ∀ T, RdL (m ++ (some { cells := [.int .i64 kw, .int .i64 kh, .int .i64 kg, .int .i64 ko, .bool kt] } :: T)) (m.length + 0) 0 [.int .i64 kw, .int .i64 kh, .int .i64 kg, .int .i64 ko, .bool kt] := fun T => RdL.new rfl rfl
      (repeat' (first | ((with_reducible refine Step.id ?_); first | ((with_reducible apply Step.move); exact rfl; exact rfl) | ((with_reducible apply Step.loadL (n := 5)); exact rfl; (focus (decide +kernel)); (focus (decide +kernel)); exact rfl; (focus (exact RdL.new rfl rfl)); exact rfl; exact rfl) | ((with_reducible apply Step.buildS 2); exact rfl; exact rfl; exact (fun _ _ => bs31); exact rfl; (focus (first | (simp only [List.nil_append, List.cons_append, List.set_cons_zero, List.set_cons_succ, iv_set, bv_set, iv_rep, bv_rep]; done) | (simp only [List.nil_append, List.cons_append, List.set_cons_zero, List.set_cons_succ, iv_set, bv_set, iv_rep, bv_rep]; rfl) | rfl)))) | ((with_reducible apply AW.drawT fit (T := (.step 0 (.both (.step 1 (.step 2 (.step 3 (.step 4 (.step 5 .done))))) (.step 2 (.both (.step 1 (.step 3 (.step 4 (.step 5 .done)))) (.step 3 (.step 1 (.step 4 (.step 5 .done)))))))))); (focus (decide +kernel))) | ((with_reducible apply AWt.step); exact rfl) | refine AWt.both ?_ ?_))
      all_goals ((with_reducible apply Step.callX fit); exact rfl; exact Tryd.func25; exact rfl; exact rfl; exact (hC _))
      all_goals rintro _ M1 ⟨N1, hN1⟩ hrow
      all_goals have rb1 : ∀ T, RdL (M1 ++ T) (m.length + 0) 0 [.int .i64 kw, .int .i64 kh, .int .i64 kg, .int .i64 ko, .bool kt] := fun T => by rw [hN1]; simp only [List.append_assoc, List.cons_append, List.nil_append]; exact rb _
      all_goals (repeat' (first | ((with_reducible refine Step.id ?_); first | ((with_reducible apply Step.loadL (n := 5)); exact rfl; (focus (decide +kernel)); (focus (decide +kernel)); exact rfl; (focus (exact rb1 _)); exact rfl; exact rfl) | ((with_reducible apply Step.buildS 0); exact rfl; exact rfl; exact (fun _ _ => bs31); exact rfl; (focus (first | (simp only [List.nil_append, List.cons_append, List.set_cons_zero, List.set_cons_succ, iv_set, bv_set, iv_rep, bv_rep]; done) | (simp only [List.nil_append, List.cons_append, List.set_cons_zero, List.set_cons_succ, iv_set, bv_set, iv_rep, bv_rep]; rfl) | rfl)))) | ((with_reducible apply AWt.step); exact rfl)))
      all_goals have hrow' := Row.low (b1 := m.length) hrow (by rw [List.length_append]; omega)
      all_goals have hm1 : m.length ≤ M1.length := by rw [hN1]; simp only [List.length_append]; omega
      all_goals have hp1 : ∃ N, M1 = m ++ N := by rw [hN1]; simp only [List.append_assoc]; exact ⟨_, rfl⟩
      all_goals first
        | ((with_reducible apply Step.appRow (n := K.length) (xl := 1) (b0 := m.length) (new := [.int .i64 kw, .int .i64 kh, .int .i64 kg, .int .i64 ko, .bool kt])); exact rfl; exact rfl; exact (hrow'.old _); exact (Sl.mk (Nat.le_refl _)); exact (fun _ => RdL.new rfl rfl); exact el31; exact un31; exact rfl; exact rfl; exact rfl; (focus (omega)); exact rfl; (focus (rw [List.length_append]; omega)))
        | ((with_reducible apply Step.appRow (n := K.length) (xl := 1) (b0 := m.length) (new := [.int .i64 kw, .int .i64 kh, .int .i64 kg, .int .i64 ko, .bool kt])); exact rfl; exact rfl; exact (hrow'.old _); exact (Sl.mk (Nat.le_refl _)); exact (fun _ => by rw [hN1]; simp only [List.append_assoc]; exact RdL.new rfl rfl); exact el31; exact un31; exact rfl; exact rfl; exact rfl; (focus (omega)); exact rfl; (focus (rw [List.length_append]; omega)))
      all_goals intro u' M' hr hl hk'
      all_goals have hp' := row_pre (pre_up hp1 ⟨_, rfl⟩) (hrow'.old _) hl hk'
      all_goals (repeat' (first | ((with_reducible refine Step.id ?_); ((with_reducible apply Step.assign); exact rfl; exact rfl)) | ((with_reducible apply Then.n)) | ((with_reducible apply AWt.step); exact rfl) | ((with_reducible apply AWt.done))))
      all_goals subst hbst
      all_goals exact ⟨_, hp', hr, (by repeat (first | exact trivial | (refine And.intro rfl ?_)))⟩
    rintro t' M2 ⟨u, hN2, hrow, hsl⟩
    refine AW.weak (fr_all hsl) ?_
    have hm2 : 0 < M2.length := by obtain ⟨N, e⟩ := hN2; rw [e, List.length_append]; omega
    have hk2 : ∀ T, Kds (M2 ++ T) u (K ++ [⟨kw, kh, kg, ko, kt⟩]) := fun T => (row_kds hrow (by simp) hm2).old T
    clear hsl hrow h3 hG
    refine AW.rebase ?_
    have hK2 := fun T => RKinds_ok (hk2 T)
    (repeat ((with_reducible refine AWo.cons ?_)))
    refine AW.join (fun t' m' => (∃ N, m' = M2 ++ N) ∧ All (fun i v => t' i = some v) [(0, sv0), (1, kv), (3, .int .i64 x), (4, .int .i64 y), (11, .int .i64 bst), (12, .int .i64 0)]) ?_ ?_
    · cases hkb : kindsB (K ++ [⟨kw, kh, kg, ko, kt⟩]) with
      | false =>
        rw [hkb] at hK2
        (repeat (first | (with_reducible refine AWo.cons ?_) | ((with_reducible refine Step.id ?_); first | ((with_reducible apply Step.move); exact rfl; exact rfl) | ((with_reducible apply Step.callR fit); exact rfl; exact Tryd.func26; exact rfl; exact rfl; exact (hK2 _))) | (with_reducible refine AWo.nil ?_) | ((with_reducible apply AW.seq)) | ((with_reducible apply Then.n)) | ((with_reducible apply AW.regL)) | ((with_reducible apply AW.skip)) | ((with_reducible apply AW.condF); exact rfl; (focus (rfl)))))
        exact ⟨⟨_, rfl⟩, (by repeat (first | exact trivial | (refine And.intro rfl ?_)))⟩
      | true =>
        rw [hkb] at hK2
        obtain ⟨bk1, bk2⟩ := bk hkb
        have ho := fun T => of_ok (hk2 T) (by simp; omega)
        have e14 : (K ++ [(⟨kw, kh, kg, ko, kt⟩ : Kd)]).take 14 = K ++ [⟨kw, kh, kg, ko, kt⟩] := List.take_of_length_le (by have := kindsB_kl hkb; omega)
        rw [e14] at ho
        have hB := fun T => Best_ok (m := M2 ++ (gb (kvc (K ++ [⟨kw, kh, kg, ko, kt⟩])) 5 :: T)) ((S0 M2 hN2).old _) (kds_at (k := 0) (l := K ++ [⟨kw, kh, kg, ko, kt⟩]) rfl) bk1
        generalize bestM B (K ++ [⟨kw, kh, kg, ko, kt⟩]) = b2 at *
        generalize K ++ [(⟨kw, kh, kg, ko, kt⟩ : Kd)] = K' at *
        (repeat (first | (with_reducible refine AWo.cons ?_) | ((with_reducible refine Step.id ?_); first | ((with_reducible apply Step.gdT); exact rfl; exact rfl; (focus (rfl))) | ((with_reducible apply Step.move); exact rfl; exact rfl) | ((with_reducible apply Step.assign); exact rfl; exact rfl) | ((with_reducible apply Step.lss); exact rfl; exact rfl; exact rfl) | ((with_reducible apply Step.neq); exact rfl; exact rfl; exact rfl) | ((with_reducible apply Step.extract); exact rfl; exact rfl; exact rfl) | ((with_reducible apply Step.pickF); exact rfl; exact rfl; exact rfl; exact rfl; (focus (rfl))) | ((with_reducible apply Step.callR fit); exact rfl; exact Tryd.func26; exact rfl; exact rfl; exact (hK2 _)) | ((with_reducible apply Step.callG fit (k := 0)); exact rfl; exact rfl; exact Tryd.func23; exact rfl; exact rfl; exact (ho _); (focus (first | (simp only [List.nil_append, List.cons_append, List.set_cons_zero, List.set_cons_succ, iv_set, bv_set, iv_rep, bv_rep]; done) | (simp only [List.nil_append, List.cons_append, List.set_cons_zero, List.set_cons_succ, iv_set, bv_set, iv_rep, bv_rep]; rfl) | rfl))) | ((with_reducible apply Step.callR fit); exact rfl; exact Tryd.func22; exact rfl; exact rfl; exact (hB _))) | (with_reducible refine AWo.nil ?_) | ((with_reducible apply AW.seq)) | ((with_reducible apply Then.n)) | ((with_reducible apply AW.regL)) | ((with_reducible apply AW.skip)) | ((with_reducible apply AW.condT); exact rfl; (focus (rfl))) | ((with_reducible apply AW.condF); exact rfl; (focus ((simp only [decide_eq_true_eq, decide_eq_false_iff_not, Bool.not_eq_true', Bool.not_eq_false', Bool.not_true, Bool.not_false]; first | assumption | omega))))))
        exact ⟨⟨_, rfl⟩, (by repeat (first | exact trivial | (refine And.intro rfl ?_)))⟩
    rintro t' M3 ⟨hN3, hsl⟩
    refine AW.weak (fr_all hsl) ?_
    have hp3 : ∃ N, M3 = m ++ N := by obtain ⟨N, e⟩ := hN2; obtain ⟨N', e'⟩ := hN3; exact ⟨_, by rw [e', e, List.append_assoc]⟩
    clear hsl hK2 hk2 hN3 bk
    refine AW.rebase ?_
    rw [List.append_nil]
    obtain ⟨A1, O1, sl1, la1, rd1⟩ := id hs
    (repeat (first | (with_reducible refine AWo.cons ?_) | ((with_reducible refine Step.id ?_); first | ((with_reducible apply Step.move); exact rfl; exact rfl) | ((with_reducible apply Step.assign); exact rfl; exact rfl) | ((with_reducible apply Step.len); exact rfl; (focus (assumption)); (focus (decide +kernel)); exact rfl)) | (with_reducible refine AWo.nil ?_) | ((with_reducible apply AW.seq)) | ((with_reducible apply Then.n)) | ((with_reducible apply AW.regL)) | ((with_reducible apply AW.block))))
    refine AW.loopW (fun n t M' => ∃ (i : Nat) (ua ub : Value), n = B.length - i ∧ i ≤ B.length ∧ (∃ N, M' = m ++ N) ∧ Row M' m.length 1 ua (sv (mirT B i)) i ∧ Row M' m.length 1 ub (sv (betT B x y i)) i ∧ Dis ua ub ∧
      t = fr [(0, sv0), (1, kv), (3, .int .i64 x), (4, .int .i64 y), (11, .int .i64 bst), (12, .int .i64 0), (16, ua), (17, ub), (67, sv0), (68, .int .i64 (B.length : Nat)), (69, .int .i64 (i : Nat))])
      ⟨_, _, (by repeat (first | exact trivial | (refine And.intro rfl ?_))), 0, _, _, rfl, Nat.zero_le _, hp3, Row.nil, Row.nil, fun j => .inl NotOf.nil, rfl⟩ ?_
    rintro n t M' ⟨i, ua, ub, rfl, hi, hp, ra, rb, hdis, rfl⟩
    rcases Nat.lt_or_ge i B.length with hlt | hge
    · have rs : ∀ T, Rd (M' ++ T) A1 (O1 + i) (.string (rowOf B i)) := fun T => by obtain ⟨N, e⟩ := hp; rw [e, List.append_assoc]; exact (rd1 i hlt).old _
      have hrow := (skinRow (board_skin hgb) (show i < bh B from hlt)).1
      have hsz : (rowOf B i).size ≤ 1000 := by rw [hrow]; have := hin.2.2.2; omega
      have hml : m.length ≤ M'.length := by obtain ⟨N, e⟩ := hp; rw [e, List.length_append]; omega
      have e1 := mirT_succ B hlt
      have e2 := betT_succ B x y i
      generalize hq : (decide ((i : Int) = y) && decide (0 ≤ x)) = q at *
      have hbd : betS (rowOf B i) q x.toNat = if q && decide (x.toNat < (rowOf B i).size) && decide (byteAt (rowOf B i) x.toNat < 57) then ⟨((rowOf B i).data.toList.set x.toNat (byte8 (rowOf B i) x.toNat + 1)).toArray⟩ else rowOf B i := rfl
      have hsl8 := size_list (rowOf B i)
      have hb8 : ∀ j, j < (rowOf B i).size → (by8 (rowOf B i).data.toList)[j]? = some (.int .u8 (byteAt (rowOf B i) j : Nat)) := fun j hj => by rw [by8_get (by rw [hsl8]; exact hj), ← byte8_list _ hj]; rfl
      generalize rowOf B i = s at *
      refine AW.rebase ?_
      rw [List.append_nil]
      (repeat (first | (with_reducible refine AWo.cons ?_) | ((with_reducible refine Step.id ?_); first | ((with_reducible apply Step.move); exact rfl; exact rfl) | ((with_reducible apply Step.assign); exact rfl; exact rfl) | ((with_reducible apply Step.load); exact rfl; (focus (decide +kernel)); exact rfl; (focus (exact by simpa using rs []))) | ((with_reducible apply Step.ix1); exact rfl; (focus (assumption)); exact rfl; (focus (decide +kernel)); exact rfl; (focus (omega))) | ((with_reducible apply Step.lss); exact rfl; exact rfl; exact rfl)) | (with_reducible refine AWo.nil ?_) | ((with_reducible apply AW.seq)) | ((with_reducible apply Then.n)) | ((with_reducible apply AW.regL)) | ((with_reducible apply AW.block)) | ((with_reducible apply AW.skip)) | ((with_reducible apply AW.condT); exact rfl; (focus ((simp only [decide_eq_true_eq, decide_eq_false_iff_not, Bool.not_eq_true', Bool.not_eq_false', Bool.not_true, Bool.not_false]; first | assumption | omega))))))
      ((with_reducible apply Step.toBytes); exact rfl; exact un9; exact un40; exact un5; exact rfl)
      have hrev := Reverse_ok (m := M' ++ [some { cells := by8 s.data.toList, kind := .str, size := 1 }]) (a := M'.length) (c := s.size) (l := s.data.toList) (by simp) (by omega) (by omega)
      rw [hsl8] at hrev
      (repeat (first | (with_reducible refine AWo.cons ?_) | ((with_reducible refine Step.id ?_); first | ((with_reducible apply Step.move); exact rfl; exact rfl) | ((with_reducible apply Step.assign); exact rfl; exact rfl)) | (with_reducible refine AWo.nil ?_) | ((with_reducible apply AW.seq)) | ((with_reducible apply Then.n)) | ((with_reducible apply AW.regL))))
      ((with_reducible apply Step.callZ fit); exact rfl; exact Tryd.func27; exact rfl; exact rfl; exact hrev)
      rintro _ M4 ⟨rfl, hM4⟩
      have hM4 : M4 = M' ++ [some { cells := by8 s.data.toList.reverse, kind := .str, size := 1 }] := by rw [hM4]; unfold MS; rw [List.set_append_right _ _ (Nat.le_refl _)]; simp
      subst hM4
      rw [List.append_nil]
      (repeat (first | (with_reducible refine AWo.cons ?_) | ((with_reducible refine Step.id ?_); ((with_reducible apply Step.move); exact rfl; exact rfl)) | (with_reducible refine AWo.nil ?_) | ((with_reducible apply AW.seq)) | ((with_reducible apply Then.n)) | ((with_reducible apply AW.regL))))
      ((with_reducible apply Step.toStr (l := s.data.toList.reverse)); exact rfl; exact (Sl.mk (Nat.le_refl _)); (focus (simp)); exact (show RdL (M' ++ [some { cells := by8 s.data.toList.reverse, kind := .str, size := 1 }]) (M'.length + 0) 0 _ from RdL.new rfl rfl); exact un40; exact un5; exact un9; exact rfl)
      (repeat (first | (with_reducible refine AWo.cons ?_) | ((with_reducible refine Step.id ?_); ((with_reducible apply Step.buildS 1); exact rfl; exact rfl; exact (fun _ _ => bs30w); exact rfl; (focus (first | (simp only [List.nil_append, List.cons_append, List.set_cons_zero, List.set_cons_succ, iv_set, bv_set, iv_rep, bv_rep]; done) | (simp only [List.nil_append, List.cons_append, List.set_cons_zero, List.set_cons_succ, iv_set, bv_set, iv_rep, bv_rep]; rfl) | rfl))))))
      ((with_reducible apply Step.appRow2 (n := i) (xl := 1) (a := M'.length + 1) (o := 0) (new := [.string (mirS s)])); exact rfl; exact rfl; exact (ra.old _); exact (Sl.mk (Nat.le_refl _)); exact (fun _ => RdL.new rfl rfl); exact el30; exact un30; exact rfl; exact rfl; exact rfl; (focus (omega)); exact rfl; (focus (rw [List.length_append]; omega)))
      intro ua' Ma hra hla hka hna
      obtain ⟨rb', hdis'⟩ := Row.other (ra.old _) (rb.old _) hdis hka hna
      have hpa := row_pre (pre_up hp ⟨_, rfl⟩) (ra.old _) hla hka
      have hma : m.length ≤ Ma.length := by obtain ⟨N, e⟩ := hpa; rw [e, List.length_append]; omega
      clear ra rb hdis hka hna hla hp rs hrev hml
      (repeat (first | (with_reducible refine AWo.cons ?_) | ((with_reducible refine Step.id ?_); first | ((with_reducible apply Step.move); exact rfl; exact rfl) | ((with_reducible apply Step.assign); exact rfl; exact rfl)) | (with_reducible refine AWo.nil ?_) | ((with_reducible apply AW.seq)) | ((with_reducible apply Then.n)) | ((with_reducible apply AW.regL))))
      ((with_reducible apply Step.toBytes); exact rfl; exact un9; exact un40; exact un5; exact rfl)
      (repeat (first | (with_reducible refine AWo.cons ?_) | ((with_reducible refine Step.id ?_); ((with_reducible apply Step.assign); exact rfl; exact rfl)) | (with_reducible refine AWo.nil ?_) | ((fail_if_success (with_reducible refine AW.atR (id := 17) ?_)); ((with_reducible apply AW.seq))) | ((with_reducible apply Then.n))))
      refine AW.join (fun t' m' => ∃ l', m' = Ma ++ [some { cells := by8 l', kind := .str, size := 1 }] ∧ l'.length = s.size ∧ (⟨l'.toArray⟩ : ByteArray) = betS s q x.toNat ∧
        All (fun i v => t' i = some v) [(0, sv0), (1, kv), (3, .int .i64 x), (4, .int .i64 y), (11, .int .i64 bst), (12, .int .i64 0), (16, ua'), (17, ub), (21, .slice (some ⟨Ma.length, 0, none⟩) s.size s.size), (67, sv0), (68, .int .i64 (B.length : Nat)), (69, .int .i64 (i : Nat))]) ?_ ?_
      · have slb : Sl (.slice (some ⟨Ma.length, 0, none⟩) s.size s.size) Ma.length 0 s.size := Sl.mk (Nat.le_refl _)
        have r8 : ∀ j, j < s.size → Rd (Ma ++ [some { cells := by8 s.data.toList, kind := .str, size := 1 }]) Ma.length j (.int .u8 (byteAt s j : Nat)) := fun j hj => ⟨_, by rw [List.getElem?_append_right (Nat.le_refl _), Nat.sub_self]; rfl, hb8 j hj⟩
        have no : (q && decide (x.toNat < s.size) && decide (byteAt s x.toNat < 57)) = false → (⟨s.data.toList.toArray⟩ : ByteArray) = betS s q x.toNat := fun h => by
          rw [hbd, if_neg (by rw [h]; simp), bytes_eta]
        by_cases c1 : (i : Int) = y
        · by_cases c2 : 0 ≤ x
          · obtain ⟨xn, rfl⟩ : ∃ n : Nat, x = n := ⟨x.toNat, by omega⟩
            simp only [Int.toNat_natCast] at *
            have hqt : q = true := by rw [← hq, decide_eq_true c1, decide_eq_true c2]; rfl
            subst hqt
            by_cases c3 : xn < s.size
            · have r8x := r8 xn c3
              by_cases c4 : byteAt s xn < 57
              · have e8 : ((byte8 s xn + 1).toNat : Int) = (byteAt s xn : Int) + 1 := by
                  have : (byte8 s xn + 1).toNat = byteAt s xn + 1 := by
                    rw [byteAt_8, UInt8.toNat_add]
                    rw [byteAt_8] at c4
                    show ((byte8 s xn).toNat + 1) % 256 = _
                    omega
                  omega
                rw [hbd, decide_eq_true c3, decide_eq_true c4]
                (repeat (first | (with_reducible refine AWo.cons ?_) | ((with_reducible refine Step.id ?_); first | ((with_reducible apply Step.gdT); exact rfl; exact rfl; (focus (first | rfl | (simp only [decide_eq_true_eq, decide_eq_false_iff_not, Bool.not_eq_true', Bool.not_eq_false', Bool.not_true, Bool.not_false]; first | assumption | omega)))) | ((with_reducible apply Step.move); exact rfl; exact rfl) | ((with_reducible apply Step.load); exact rfl; (focus (decide +kernel)); exact rfl; (focus (assumption))) | ((with_reducible apply Step.ix1z); exact rfl; (focus (assumption)); exact rfl; (focus (decide +kernel)); exact rfl; (focus (omega))) | ((with_reducible apply Step.lss); exact rfl; exact rfl; exact rfl) | ((with_reducible apply Step.geq); exact rfl; exact rfl; exact rfl) | ((with_reducible apply Step.eql); exact rfl; exact rfl; exact rfl) | ((with_reducible apply Step.len); exact rfl; (focus (assumption)); (focus (decide +kernel)); exact rfl) | ((with_reducible apply Step.pickT); exact rfl; exact rfl; exact rfl; exact rfl; (focus (first | rfl | (simp only [decide_eq_true_eq, decide_eq_false_iff_not, Bool.not_eq_true', Bool.not_eq_false', Bool.not_true, Bool.not_false]; first | assumption | omega))))) | (with_reducible refine AWo.nil ?_) | ((with_reducible apply AW.seq)) | ((with_reducible apply Then.n)) | ((with_reducible apply AW.regL)) | ((with_reducible apply AW.condT); exact rfl; (focus ((simp only [decide_eq_true_eq, decide_eq_false_iff_not, Bool.not_eq_true', Bool.not_eq_false', Bool.not_true, Bool.not_false]; first | assumption | omega))))))
                ((with_reducible apply Step.addU); exact rfl; exact rfl; (focus (omega)); exact rfl)
                (repeat (first | (with_reducible refine AWo.cons ?_) | ((with_reducible refine Step.id ?_); ((with_reducible apply Step.ix1z); exact rfl; (focus (assumption)); exact rfl; (focus (decide +kernel)); exact rfl; (focus (omega))))))
                ((with_reducible apply Step.storeS); exact rfl; exact rfl; exact (show (Ma ++ [some { cells := by8 s.data.toList, kind := .str, size := 1 }])[Ma.length]? = some (some { cells := by8 s.data.toList, kind := .str, size := 1 }) by simp); (focus (decide +kernel)); (focus (rw [by8_len]; omega)))
                (repeat (first | (with_reducible refine AWo.nil ?_) | ((with_reducible apply Then.n))))
                refine ⟨s.data.toList.set xn (byte8 s xn + 1), ?_, by rw [List.length_set]; exact hsl8, rfl, (by repeat (first | exact trivial | (refine And.intro rfl ?_)))⟩
                rw [List.set_append_right _ _ (Nat.le_refl _), Nat.sub_self, ← by8_set, e8]
                rfl
              · have hb := no (by rw [decide_eq_false c4]; simp)
                (repeat (first | (with_reducible refine AWo.cons ?_) | ((with_reducible refine Step.id ?_); first | ((with_reducible apply Step.gdT); exact rfl; exact rfl; (focus (first | rfl | (simp only [decide_eq_true_eq, decide_eq_false_iff_not, Bool.not_eq_true', Bool.not_eq_false', Bool.not_true, Bool.not_false]; first | assumption | omega)))) | ((with_reducible apply Step.move); exact rfl; exact rfl) | ((with_reducible apply Step.load); exact rfl; (focus (decide +kernel)); exact rfl; (focus (assumption))) | ((with_reducible apply Step.ix1z); exact rfl; (focus (assumption)); exact rfl; (focus (decide +kernel)); exact rfl; (focus (omega))) | ((with_reducible apply Step.lss); exact rfl; exact rfl; exact rfl) | ((with_reducible apply Step.geq); exact rfl; exact rfl; exact rfl) | ((with_reducible apply Step.eql); exact rfl; exact rfl; exact rfl) | ((with_reducible apply Step.len); exact rfl; (focus (assumption)); (focus (decide +kernel)); exact rfl) | ((with_reducible apply Step.pickT); exact rfl; exact rfl; exact rfl; exact rfl; (focus (first | rfl | (simp only [decide_eq_true_eq, decide_eq_false_iff_not, Bool.not_eq_true', Bool.not_eq_false', Bool.not_true, Bool.not_false]; first | assumption | omega))))) | (with_reducible refine AWo.nil ?_) | ((with_reducible apply AW.seq)) | ((with_reducible apply Then.n)) | ((with_reducible apply AW.regL)) | ((with_reducible apply AW.skip)) | ((with_reducible apply AW.condF); exact rfl; (focus ((simp only [decide_eq_true_eq, decide_eq_false_iff_not, Bool.not_eq_true', Bool.not_eq_false', Bool.not_true, Bool.not_false]; first | assumption | omega))))))
                exact ⟨_, rfl, hsl8, hb, (by repeat (first | exact trivial | (refine And.intro rfl ?_)))⟩
            · have hb := no (by rw [decide_eq_false c3]; simp)
              (repeat (first | (with_reducible refine AWo.cons ?_) | ((with_reducible refine Step.id ?_); first | ((with_reducible apply Step.gdT); exact rfl; exact rfl; (focus (first | rfl | (simp only [decide_eq_true_eq, decide_eq_false_iff_not, Bool.not_eq_true', Bool.not_eq_false', Bool.not_true, Bool.not_false]; first | assumption | omega)))) | ((with_reducible apply Step.gdF); exact rfl; exact rfl; (focus ((simp only [decide_eq_true_eq, decide_eq_false_iff_not, Bool.not_eq_true', Bool.not_eq_false', Bool.not_true, Bool.not_false]; first | assumption | omega)))) | ((with_reducible apply Step.move); exact rfl; exact rfl) | ((with_reducible apply Step.lss); exact rfl; exact rfl; exact rfl) | ((with_reducible apply Step.geq); exact rfl; exact rfl; exact rfl) | ((with_reducible apply Step.eql); exact rfl; exact rfl; exact rfl) | ((with_reducible apply Step.len); exact rfl; (focus (assumption)); (focus (decide +kernel)); exact rfl) | ((with_reducible apply Step.pickT); exact rfl; exact rfl; exact rfl; exact rfl; (focus (first | rfl | (simp only [decide_eq_true_eq, decide_eq_false_iff_not, Bool.not_eq_true', Bool.not_eq_false', Bool.not_true, Bool.not_false]; first | assumption | omega)))) | ((with_reducible apply Step.pickF); exact rfl; exact rfl; exact rfl; exact rfl; (focus ((simp only [decide_eq_true_eq, decide_eq_false_iff_not, Bool.not_eq_true', Bool.not_eq_false', Bool.not_true, Bool.not_false]; first | assumption | omega))))) | (with_reducible refine AWo.nil ?_) | ((with_reducible apply AW.seq)) | ((with_reducible apply Then.n)) | ((with_reducible apply AW.regL)) | ((with_reducible apply AW.skip)) | ((with_reducible apply AW.condF); exact rfl; (focus (rfl)))))
              exact ⟨_, rfl, hsl8, hb, (by repeat (first | exact trivial | (refine And.intro rfl ?_)))⟩
          · have hb := no (by rw [← hq, decide_eq_false c2]; simp)
            (repeat (first | (with_reducible refine AWo.cons ?_) | ((with_reducible refine Step.id ?_); first | ((with_reducible apply Step.gdT); exact rfl; exact rfl; (focus ((simp only [decide_eq_true_eq, decide_eq_false_iff_not, Bool.not_eq_true', Bool.not_eq_false', Bool.not_true, Bool.not_false]; first | assumption | omega)))) | ((with_reducible apply Step.gdF); exact rfl; exact rfl; (focus (first | rfl | (simp only [decide_eq_true_eq, decide_eq_false_iff_not, Bool.not_eq_true', Bool.not_eq_false', Bool.not_true, Bool.not_false]; first | assumption | omega)))) | ((with_reducible apply Step.move); exact rfl; exact rfl) | ((with_reducible apply Step.geq); exact rfl; exact rfl; exact rfl) | ((with_reducible apply Step.eql); exact rfl; exact rfl; exact rfl) | ((with_reducible apply Step.pickT); exact rfl; exact rfl; exact rfl; exact rfl; (focus ((simp only [decide_eq_true_eq, decide_eq_false_iff_not, Bool.not_eq_true', Bool.not_eq_false', Bool.not_true, Bool.not_false]; first | assumption | omega)))) | ((with_reducible apply Step.pickF); exact rfl; exact rfl; exact rfl; exact rfl; (focus (first | rfl | (simp only [decide_eq_true_eq, decide_eq_false_iff_not, Bool.not_eq_true', Bool.not_eq_false', Bool.not_true, Bool.not_false]; first | assumption | omega))))) | (with_reducible refine AWo.nil ?_) | ((with_reducible apply AW.seq)) | ((with_reducible apply Then.n)) | ((with_reducible apply AW.regL)) | ((with_reducible apply AW.skip)) | ((with_reducible apply AW.condF); exact rfl; (focus (rfl)))))
            exact ⟨_, rfl, hsl8, hb, (by repeat (first | exact trivial | (refine And.intro rfl ?_)))⟩
        · have hb := no (by rw [← hq, decide_eq_false c1]; simp)
          (repeat (first | (with_reducible refine AWo.cons ?_) | ((with_reducible refine Step.id ?_); first | ((with_reducible apply Step.gdF); exact rfl; exact rfl; (focus (first | rfl | (simp only [decide_eq_true_eq, decide_eq_false_iff_not, Bool.not_eq_true', Bool.not_eq_false', Bool.not_true, Bool.not_false]; first | assumption | omega)))) | ((with_reducible apply Step.move); exact rfl; exact rfl) | ((with_reducible apply Step.eql); exact rfl; exact rfl; exact rfl) | ((with_reducible apply Step.pickF); exact rfl; exact rfl; exact rfl; exact rfl; (focus (first | rfl | (simp only [decide_eq_true_eq, decide_eq_false_iff_not, Bool.not_eq_true', Bool.not_eq_false', Bool.not_true, Bool.not_false]; first | assumption | omega))))) | (with_reducible refine AWo.nil ?_) | ((with_reducible apply AW.seq)) | ((with_reducible apply Then.n)) | ((with_reducible apply AW.regL)) | ((with_reducible apply AW.skip)) | ((with_reducible apply AW.condF); exact rfl; (focus (rfl)))))
          exact ⟨_, rfl, hsl8, hb, (by repeat (first | exact trivial | (refine And.intro rfl ?_)))⟩
      rintro t' M5 ⟨l', rfl, hl', hbs, hsl⟩
      refine AW.weak (fr_all hsl) ?_
      clear hsl
      (repeat (first | (with_reducible refine AWo.cons ?_) | ((with_reducible refine Step.id ?_); ((with_reducible apply Step.move); exact rfl; exact rfl)) | ((with_reducible apply AW.regL))))
      ((with_reducible apply Step.toStr (l := l')); exact rfl; exact (Sl.mk (Nat.le_refl _)); exact hl'; exact (show RdL (Ma ++ [some { cells := by8 l', kind := .str, size := 1 }]) (Ma.length + 0) 0 _ from RdL.new rfl rfl); exact un40; exact un5; exact un9; exact rfl)
      rw [hbs]
      (repeat (first | (with_reducible refine AWo.cons ?_) | ((with_reducible refine Step.id ?_); ((with_reducible apply Step.buildS 1); exact rfl; exact rfl; exact (fun _ _ => bs30w); exact rfl; (focus (first | (simp only [List.nil_append, List.cons_append, List.set_cons_zero, List.set_cons_succ, iv_set, bv_set, iv_rep, bv_rep]; done) | (simp only [List.nil_append, List.cons_append, List.set_cons_zero, List.set_cons_succ, iv_set, bv_set, iv_rep, bv_rep]; rfl) | rfl))))))
      ((with_reducible apply Step.appRow2 (n := i) (xl := 1) (a := Ma.length + 1) (o := 0) (new := [.string (betS s q x.toNat)])); exact rfl; exact rfl; exact (rb'.old _); exact (Sl.mk (Nat.le_refl _)); exact (fun _ => RdL.new rfl rfl); exact el30; exact un30; exact rfl; exact rfl; exact rfl; (focus (omega)); exact rfl; (focus (rw [List.length_append]; omega)))
      intro ub' Mb hrb hlb hkb hnb
      obtain ⟨ra', hdis2⟩ := Row.other (rb'.old _) (hra.old _) hdis'.symm hkb hnb
      have hpb := row_pre (pre_up hpa ⟨_, rfl⟩) (rb'.old _) hlb hkb
      (repeat (first | (with_reducible refine AWo.cons ?_) | ((with_reducible refine Step.id ?_); first | ((with_reducible apply Step.move); exact rfl; exact rfl) | ((with_reducible apply Step.assign); exact rfl; exact rfl) | ((with_reducible apply Step.add); exact rfl; exact rfl; (focus (omega)); exact rfl)) | (with_reducible refine AWo.nil ?_) | ((with_reducible apply Then.n)) | ((with_reducible apply AW.regL)) | ((with_reducible apply InBlk.n))))
      exact ⟨_, _, by omega, (by repeat (first | exact trivial | (refine And.intro rfl ?_))), i + 1, ua', ub', rfl, by omega, hpb, by rw [e1, sv_app]; exact ra', by rw [e2, sv_app]; exact hrb, hdis2.symm, rfl⟩
    · obtain rfl : i = B.length := by omega
      have hml : 0 < M'.length := by obtain ⟨N, e⟩ := hp; rw [e, List.length_append]; omega
      rw [mirT_full] at ra
      rw [betT_full] at rb
      have sa := row_strs ra (by rw [mirB_len]) hml
      have sb := row_strs rb (by rw [betB_len]) hml
      have B1 := fun T => Best_ok (m := M' ++ (gb (kvc K) 5 :: T)) (sa.old _) (kds_at (k := 0) (l := K) rfl) bm1
      have B2 := fun T => Best_ok (m := M' ++ (gb (kvc K) 5 :: gb (kvc K) 5 :: T)) (sb.old _) (kds_at (k := 1) (l := K) rfl) bb1
      rw [bm2] at B1
      generalize bestM (betB B x y) K = b3 at *
      have nlt : ¬ (B.length : Int) > (B.length : Int) := by omega
      refine AW.rebase ?_
      (repeat (first | (with_reducible refine AWo.cons ?_) | ((with_reducible refine Step.id ?_); first | ((with_reducible apply Step.gdT); exact rfl; exact rfl; (focus (first | rfl | (simp only [decide_eq_true_eq, decide_eq_false_iff_not, Bool.not_eq_true', Bool.not_eq_false', Bool.not_true, Bool.not_false]; first | assumption | omega) | (simp; done)))) | ((with_reducible apply Step.move); exact rfl; exact rfl) | ((with_reducible apply Step.assign); exact rfl; exact rfl) | ((with_reducible apply Step.lss); exact rfl; exact rfl; exact rfl) | ((with_reducible apply Step.geq); exact rfl; exact rfl; exact rfl) | ((with_reducible apply Step.eql); exact rfl; exact rfl; exact rfl) | ((with_reducible apply Step.extract); exact rfl; exact rfl; exact rfl) | ((with_reducible apply Step.pickT); exact rfl; exact rfl; exact rfl; exact rfl; (focus (first | rfl | (simp only [decide_eq_true_eq, decide_eq_false_iff_not, Bool.not_eq_true', Bool.not_eq_false', Bool.not_true, Bool.not_false]; first | assumption | omega) | (simp; done)))) | ((with_reducible apply Step.callG fit (k := 0)); exact rfl; exact rfl; exact Tryd.func23; exact rfl; exact rfl; exact (O M' hp _); (focus (first | (simp only [List.nil_append, List.cons_append, List.set_cons_zero, List.set_cons_succ, iv_set, bv_set, iv_rep, bv_rep]; done) | (simp only [List.nil_append, List.cons_append, List.set_cons_zero, List.set_cons_succ, iv_set, bv_set, iv_rep, bv_rep]; rfl) | rfl))) | ((with_reducible apply Step.callG fit (k := 1)); exact rfl; exact rfl; exact Tryd.func23; exact rfl; exact rfl; exact (O M' hp _); (focus (first | (simp only [List.nil_append, List.cons_append, List.set_cons_zero, List.set_cons_succ, iv_set, bv_set, iv_rep, bv_rep]; done) | (simp only [List.nil_append, List.cons_append, List.set_cons_zero, List.set_cons_succ, iv_set, bv_set, iv_rep, bv_rep]; rfl) | rfl))) | ((with_reducible apply Step.callR fit); exact rfl; exact Tryd.func22; exact rfl; exact rfl; exact (B1 _)) | ((with_reducible apply Step.callR fit); exact rfl; exact Tryd.func22; exact rfl; exact rfl; exact (B2 _)) | ((with_reducible apply Step.callR fit); exact rfl; exact Tryd.func21; exact rfl; exact rfl; exact (haw _))) | (with_reducible refine AWo.nil ?_) | ((with_reducible apply AW.seq)) | ((with_reducible apply Then.n)) | ((with_reducible apply AW.regL)) | ((with_reducible apply AW.exit)) | ((with_reducible apply InBlk.hit)) | ((with_reducible apply Then.e)) | ((with_reducible apply AW.condF); exact rfl; (focus ((simp only [decide_eq_true_eq, decide_eq_false_iff_not, Bool.not_eq_true', Bool.not_eq_false', Bool.not_true, Bool.not_false]; first | assumption | omega))))))
      (refine AW.ret ?_; (repeat (first | refine Then.r ?_ | refine InBlk.r ?_)))
      obtain ⟨N, hN⟩ := hp
      exact ⟨_, rfl, rfl, _, by rw [hN, List.append_assoc]⟩
end Go.Proofs.YtibhgdglbillaaaDoor.Abs
namespace Go.Proofs.YtibhgdglbillaaaDoor.Abs
set_option linter.unusedSimpArgs false
set_option linter.unusedVariables false
open Go.RowKit
open Go.Proofs.YtibhgdglbillaaaDoor.Sim
open Go.ChangeShapes Go.WideShapes Go.Deep
section
variable {H : Type} {enc : TypeId × Value → H} {P : Program} {w : World} {base : Nat} {spare : Nat → Bool} {held : Bool}
theorem arg_kind {r : Reach} {b0 : Nat} {T : TypeId} {fs : Array Field} {v : Value} {d : DataW H} {p : List MemPlace} (ht : P.underlying T = some (.struct fs)) (hone : oneCellFields P fs = true) (hC : P.cellsOf T = fs.size)
    (hn : fs.size = 5) (hi : fieldsKB P fs 4 = true) (hok : Value.okWide P w r b0 T v) (h : DataW.Trod enc P w base spare held T v d p) : ∃ x : Kd, v = x.v := by
  obtain ⟨cs, rfl, _⟩ := okWide_struct ht hok
  obtain ⟨fuel, h⟩ := h
  obtain ⟨xs, n, _, _, hlen, hxl, hf⟩ := DataW.trod_struct ht h
  simp only [Value.cells] at hlen hf
  rw [hC] at hlen
  have at_ : ∀ j, (hj : j < fs.size) → DataW.trod enc P w base spare held n fs[j].type [cs.toList[j]'(by omega)] = some (xs[j]'(by omega)) := fun j hj => by
    obtain ⟨ho, hk⟩ := hone_of hone j fs[j] (Array.getElem?_eq_getElem hj)
    have h1 := hf j fs[j] (Array.getElem?_eq_getElem hj)
    rw [ho, hk, List.drop_eq_getElem_cons (by omega), List.take_succ_cons, List.take_zero, List.getElem?_eq_getElem (by omega)] at h1
    exact h1
  have int_ : ∀ j, j < 4 → ∃ z : Int, cs.toList[j]? = some (.int .i64 z) := fun j hj => by
    obtain ⟨z, hz, _⟩ := DataW.trod_int (fieldsKB_int hi (Array.getElem?_eq_getElem (by omega)) hj) (at_ j (by omega))
    injection hz with hz _
    exact ⟨z, by rw [List.getElem?_eq_getElem (by omega), hz]⟩
  obtain ⟨z0, e0⟩ := int_ 0 (by omega)
  obtain ⟨z1, e1⟩ := int_ 1 (by omega)
  obtain ⟨z2, e2⟩ := int_ 2 (by omega)
  obtain ⟨z3, e3⟩ := int_ 3 (by omega)
  obtain ⟨b, hb, _⟩ := DataW.trod_bool (fieldsKB_bool hi (Array.getElem?_eq_getElem (by omega))) (at_ 4 (by omega))
  injection hb with hb _
  have e4 : cs.toList[4]? = some (.bool b) := by rw [List.getElem?_eq_getElem (by omega), hb]
  refine ⟨⟨z0, z1, z2, z3, b⟩, ?_⟩
  have e : cs.toList = [.int .i64 z0, .int .i64 z1, .int .i64 z2, .int .i64 z3, .bool b] := by
    clear hf at_ int_ hb
    generalize cs.toList = l at *
    match l, hlen with
    | [a, b', c, d, e'], _ => simp at e0 e1 e2 e3 e4; subst e0 e1 e2 e3 e4; rfl
    | [], h => simp [hn] at h
    | [_], h => simp [hn] at h
    | [_, _], h => simp [hn] at h
    | [_, _, _], h => simp [hn] at h
    | [_, _, _, _], h => simp [hn] at h
    | _ :: _ :: _ :: _ :: _ :: _ :: _, h => simp [hn] at h
  obtain ⟨l⟩ := cs
  simp only at e
  subst e
  rfl
end
end Go.Proofs.YtibhgdglbillaaaDoor.Abs
