/- Proved here: what the proof of TopQueue rests on, part 4 of 6. Conditions: those that each theorem names. -/
import Derived.Test.YtedbjmgchfgabaaDoorTopQueueK3
namespace Go.Proofs.YtedbjmgchfgabaaDoor.Abs
set_option linter.unusedSimpArgs false
set_option linter.unusedVariables false
open Go.RowKit
open Go.Proofs.YtedbjmgchfgabaaDoor.Sim
open Go.Proofs
theorem un5 : Tryd.prog.underlying 5 = some (.int .u8) := by kernel_rfl
theorem un3 : Tryd.prog.underlying 3 = some (.int .i64) := by kernel_rfl
theorem el47 : elemB Tryd.prog 59 = some (3, 1, 8, #[.int .i64 0]) := by kernel_rfl
theorem el122 : elemB Tryd.prog 163 = some (59, 1, 24, #[.slice none 0 0]) := by kernel_rfl
theorem bs122 {m : AM} {k n c : Nat} {q : Option Addr} : abuildSlice Tryd.prog m k 163 1 [(0, .slice q n c)] = some (.slice (some ⟨k, 0, none⟩) 1 1, m.set k (some { cells := [.slice q n c] })) := by kernel_rfl
theorem bl160 {w h : Int} {n c : Nat} {q : Option Addr} : abuild Tryd.prog 165 [(0, .int .i64 w), (1, .int .i64 h), (2, .slice q n c)] = some (.agg #[.int .i64 w, .int .i64 h, .slice q n c]) := by kernel_rfl
set_option maxRecDepth 100000 in
theorem least_ok {m : AM} {g : Int} (h : 1 ≤ g ∧ g ≤ 9) : ACall Tryd.prog 38 #[.int .i64 g] m (Ret (.bool true) m) := by
  refine ACall.start Tryd.func38 rfl rfl ?_
  (repeat (first | (with_reducible refine AWo.cons ?_) | ((with_reducible refine Step.id ?_); first | ((with_reducible apply Step.gdT); exact rfl; exact rfl; (focus ((simp only [decide_eq_true_eq, decide_eq_false_iff_not, Bool.not_eq_true', Bool.not_eq_false', Bool.not_true, Bool.not_false]; first | assumption | omega)))) | ((with_reducible apply Step.move); exact rfl; exact rfl) | ((with_reducible apply Step.assign); exact rfl; exact rfl) | ((with_reducible apply Step.leq); exact rfl; exact rfl; exact rfl) | ((with_reducible apply Step.geq); exact rfl; exact rfl; exact rfl) | ((with_reducible apply Step.pickT); exact rfl; exact rfl; exact rfl; exact rfl; (focus ((simp only [decide_eq_true_eq, decide_eq_false_iff_not, Bool.not_eq_true', Bool.not_eq_false', Bool.not_true, Bool.not_false]; first | assumption | omega))))) | (with_reducible refine AWo.nil ?_) | ((with_reducible apply AW.seq)) | ((with_reducible apply Then.n)) | ((with_reducible apply AW.regL))))
  (refine AW.retD (l := [(2, _)]) (by repeat (first | exact trivial | (refine And.intro ⟨rfl, by (exact .bool _)⟩ ?_))) ?_; (repeat (first | refine Then.r ?_ | refine InBlk.r ?_)))
  exact ⟨_, rfl, by congr 1; simp [h], rfl⟩
set_option maxRecDepth 100000 in
theorem grade_ok {m : AM} {sv : Value} {B : Brd} (hs : Strs m sv B) (hv : skinB B = true) {x y : Nat} (hy : y < bh B) (hx : x < bw B) :
    ACall Tryd.prog 40 #[sv, .int .i64 (x : Nat), .int .i64 (y : Nat)] m (Ret (.int .i64 (gr B x y)) m) := by
  obtain ⟨A, O, sl, la, rd⟩ := hs
  obtain ⟨z1, z2⟩ := skin_row hv hy
  have z3 := z2 x hx
  have rk := rd y hy
  unfold bh at hy
  refine ACall.start Tryd.func40 rfl rfl ?_
  (repeat (first | (with_reducible refine AWo.cons ?_) | ((with_reducible refine Step.id ?_); first | ((with_reducible apply Step.gdT); exact rfl; exact rfl; (focus (first | rfl | (simp only [decide_eq_true_eq, decide_eq_false_iff_not, Bool.not_eq_true', Bool.not_eq_false', Bool.not_true, Bool.not_false]; first | assumption | omega)))) | ((with_reducible apply Step.move); exact rfl; exact rfl) | ((with_reducible apply Step.assign); exact rfl; exact rfl) | ((with_reducible apply Step.load); exact rfl; (focus (decide +kernel)); exact rfl; (focus (exact Rd.old _ (by assumption)))) | ((with_reducible apply Step.ix1); exact rfl; (focus (assumption)); exact rfl; (focus (decide +kernel)); exact rfl; (focus (omega))) | ((with_reducible apply Step.strIx); exact rfl; exact rfl; exact un9; (focus (omega)); exact rfl) | ((with_reducible apply Step.lenS); exact rfl; exact un9; exact rfl) | ((with_reducible apply Step.subU); exact rfl; exact rfl; (focus (omega)); exact rfl) | ((with_reducible apply Step.u8I); exact rfl; exact un5; exact un3; (focus (omega)); exact rfl) | ((with_reducible apply Step.lss); exact rfl; exact rfl; exact rfl) | ((with_reducible apply Step.geq); exact rfl; exact rfl; exact rfl) | ((with_reducible apply Step.len); exact rfl; (focus (assumption)); (focus (decide +kernel)); exact rfl) | ((with_reducible apply Step.pickF); exact rfl; exact rfl; exact rfl; exact rfl; (focus (first | rfl | (simp only [decide_eq_true_eq, decide_eq_false_iff_not, Bool.not_eq_true', Bool.not_eq_false', Bool.not_true, Bool.not_false]; first | assumption | omega))))) | (with_reducible refine AWo.nil ?_) | ((with_reducible apply AW.seq)) | ((with_reducible apply Then.n)) | ((with_reducible apply AW.regL)) | ((with_reducible apply AW.skip)) | ((with_reducible apply AW.condF); exact rfl; (focus ((simp only [decide_eq_true_eq, decide_eq_false_iff_not, Bool.not_eq_true', Bool.not_eq_false', Bool.not_true, Bool.not_false]; first | assumption | omega))))))
  (refine AW.retD (l := [(6, _)]) (by repeat (first | exact trivial | (refine And.intro ⟨rfl, by (exact .int _ _)⟩ ?_))) ?_; (repeat (first | refine Then.r ?_ | refine InBlk.r ?_)))
  exact ⟨_, rfl, rfl, rfl⟩
def tabRow (B : Brd) (g : Int) (y : Nat) : List Int := (List.range (bw B + 1)).map fun x => (cnt B g 0 0 x y : Int)
/-- The table of a skin. -/
def TabAt (m : AM) (tp : Nat) (B : Brd) (g : Int) : Prop := Rd m tp 0 (.int .i64 (bw B : Nat)) ∧ Rd m tp 1 (.int .i64 (bh B : Nat)) ∧ ∃ S, Rd m tp 2 (.slice (some ⟨S, 0, none⟩) (bh B + 1) (bh B + 1)) ∧
  ∀ y, y ≤ bh B → ∃ R, Rd m S y (.slice (some ⟨R, 0, none⟩) (bw B + 1) (bw B + 1)) ∧ ∀ x, x ≤ bw B → Rd m R x (.int .i64 (cnt B g 0 0 x y : Nat))
theorem TabAt.old {m : AM} {tp : Nat} {B : Brd} {g : Int} (h : TabAt m tp B g) (L : AM) : TabAt (m ++ L) tp B g := by
  obtain ⟨h1, h2, S, h3, h4⟩ := h
  refine ⟨h1.old L, h2.old L, S, h3.old L, fun y hy => ?_⟩
  obtain ⟨R, h5, h6⟩ := h4 y hy
  exact ⟨R, h5.old L, fun x hx => (h6 x hx).old L⟩
/-- A table of which y + 1 rows are made. -/
structure TabP (m0 m : AM) (tp S : Nat) (B : Brd) (g : Int) (y : Nat) : Prop where
  low : ∃ N, m = m0 ++ N
  tl : m0.length ≤ tp
  sl : m0.length ≤ S
  ne : S ≠ tp
  tb : m[tp]? = some (some { cells := [.int .i64 (bw B : Nat), .int .i64 (bh B : Nat), .slice (some ⟨S, 0, none⟩) (y + 1) (y + 1)] })
  sb : ∃ cs : List Value, cs.length = y + 1 ∧ (m[S]? = some (some { cells := cs }) ∨ m[S]? = some (some { cells := cs, kind := .grow, size := 1 })) ∧
    ∀ j, j ≤ y → ∃ R, R ≠ tp ∧ R ≠ S ∧ m0.length ≤ R ∧ cs[j]? = some (.slice (some ⟨R, 0, none⟩) (bw B + 1) (bw B + 1)) ∧ m[R]? = some (some { cells := iv (tabRow B g j) })
/-- A row of which the cells up to k are set. -/
def rowP (B : Brd) (g : Int) (y k : Nat) : List Int := (List.range (bw B + 1)).map fun x => if x ≤ k then (cnt B g 0 0 x (y + 1) : Int) else 0
theorem cnt_zero (B : Brd) (g : Int) (x y : Nat) : ∀ k, cnt B g x y 0 k = 0
  | 0 => rfl
  | k + 1 => by simp only [cnt, rowc, cnt_zero B g x y k]
theorem rowP_zero (B : Brd) (g : Int) (y : Nat) : rowP B g y 0 = List.replicate (bw B + 1) 0 := by
  unfold rowP
  rw [List.eq_replicate_iff]
  refine ⟨by simp, fun b hb => ?_⟩
  simp only [List.mem_map, List.mem_range] at hb
  obtain ⟨x, _, rfl⟩ := hb
  split
  · rename_i h
    obtain rfl : x = 0 := by omega
    rw [cnt_zero]; rfl
  · rfl
theorem rowP_full (B : Brd) (g : Int) (y : Nat) : rowP B g y (bw B) = tabRow B g (y + 1) := by
  unfold rowP tabRow
  apply List.map_congr_left
  intro x hx
  rw [if_pos (by have := List.mem_range.1 hx; omega)]
theorem rowP_set (B : Brd) (g : Int) (y k : Nat) {z : Int} (hz : z = (cnt B g 0 0 (k + 1) (y + 1) : Int)) : (rowP B g y k).set (k + 1) z = rowP B g y (k + 1) := by
  apply List.ext_getElem?
  intro x
  unfold rowP
  by_cases hx : x < bw B + 1
  · by_cases e : k + 1 = x
    · subst e; simp [hx, hz]
    · rw [List.getElem?_set_ne e]
      simp only [List.getElem?_map, List.getElem?_range hx, Option.map_some]
      by_cases h : x ≤ k
      · rw [if_pos h, if_pos (by omega)]
      · rw [if_neg h, if_neg (by omega)]
  · rw [List.getElem?_eq_none (by simp; omega), List.getElem?_eq_none (by simp; omega)]
theorem tabRow_zero (B : Brd) (g : Int) : tabRow B g 0 = List.replicate (bw B + 1) 0 := by
  unfold tabRow
  rw [List.eq_replicate_iff]
  refine ⟨by simp, fun b hb => ?_⟩
  simp only [List.mem_map, List.mem_range] at hb
  obtain ⟨x, _, rfl⟩ := hb
  rfl
theorem rd_iv {m : AM} {R k : Nat} {l : List Int} {b : Blk} (h : m[R]? = some (some b)) (hb : b.cells = iv l) (hk : k < l.length) : Rd m R k (.int .i64 (l.getD k 0)) := ⟨b, h, by rw [hb]; exact iv_get hk⟩
theorem tabRow_rd {m : AM} {R : Nat} {B : Brd} {g : Int} {y x : Nat} (h : m[R]? = some (some { cells := iv (tabRow B g y) })) (hx : x ≤ bw B) : Rd m R x (.int .i64 (cnt B g 0 0 x y : Nat)) := by
  have := rd_iv h rfl (k := x) (by simp [tabRow]; omega)
  have e : (tabRow B g y).getD x 0 = (cnt B g 0 0 x y : Int) := by
    unfold tabRow
    simp [List.getD_eq_getElem?_getD, show x < bw B + 1 by omega]
  rwa [e] at this
theorem TabP.done {m0 m : AM} {tp S : Nat} {B : Brd} {g : Int} (h : TabP m0 m tp S B g (bh B)) : TabAt m tp B g := by
  obtain ⟨cs, h1, h2, h3⟩ := h.sb
  refine ⟨⟨_, h.tb, rfl⟩, ⟨_, h.tb, rfl⟩, S, ⟨_, h.tb, rfl⟩, fun y hy => ?_⟩
  obtain ⟨R, _, _, _, h4, h5⟩ := h3 y hy
  refine ⟨R, ?_, fun x hx => tabRow_rd h5 hx⟩
  rcases h2 with h2 | h2 <;> exact ⟨_, h2, h4⟩
theorem cnt_cell {B : Brd} {g : Int} (y k : Nat) : (cnt B g 0 0 (k + 1) (y + 1) : Int) = (cnt B g 0 0 (k + 1) y : Int) + (rowc B g y 0 (k + 1) : Int) := by
  have : cnt B g 0 0 (k + 1) (y + 1) = cnt B g 0 0 (k + 1) y + rowc B g (0 + y) 0 (k + 1) := rfl
  rw [Nat.zero_add] at this
  omega
end Go.Proofs.YtedbjmgchfgabaaDoor.Abs
namespace Go.Proofs.YtedbjmgchfgabaaDoor.Abs
set_option linter.unusedSimpArgs false
set_option linter.unusedVariables false
open Go.RowKit
open Go.Proofs.YtedbjmgchfgabaaDoor.Sim
open Go.Proofs
@[simp] theorem rowP_len (B : Brd) (g : Int) (y k : Nat) : (rowP B g y k).length = bw B + 1 := by simp [rowP]
theorem TabP.next {m M' X : AM} {tp S S' : Nat} {B : Brd} {g : Int} {y : Nat} (h : TabP m M' tp S B g y) {cs : List Value} (hl : cs.length = y + 1) (hc : ∀ j, j ≤ y → ∃ R, R ≠ tp ∧ R ≠ S ∧ m.length ≤ R ∧ cs[j]? = some (.slice (some ⟨R, 0, none⟩) (bw B + 1) (bw B + 1)) ∧ M'[R]? = some (some { cells := iv (tabRow B g j) }))
    (h1 : ∀ i, i < M'.length → i ≠ S → X[i]? = M'[i]?) (h2 : X[M'.length]? = some (some { cells := iv (tabRow B g (y + 1)) })) (h3 : X[S']? = some (some { cells := cs ++ [.slice (some ⟨M'.length, 0, none⟩) (bw B + 1) (bw B + 1)], kind := .grow, size := 1 })) (h4 : M'.length < S') (h5 : ∃ N, X = m ++ N) :
    TabP m (X.set tp (some { cells := [.int .i64 (bw B : Nat), .int .i64 (bh B : Nat), .slice (some ⟨S', 0, none⟩) (y + 1 + 1) (y + 1 + 1)] })) tp S' B g (y + 1) := by
  have htp : tp < M'.length := (List.getElem?_eq_some_iff.1 h.tb).1
  obtain ⟨N0, hN0⟩ := h.low
  have hlm : m.length ≤ M'.length := by rw [hN0]; simp
  have htx : tp < X.length := by
    have := (List.getElem?_eq_some_iff.1 h3).1
    omega
  obtain ⟨N, hN⟩ := h5
  refine ⟨?_, h.tl, by omega, by omega, by rw [List.getElem?_set_self htx], cs ++ [.slice (some ⟨M'.length, 0, none⟩) (bw B + 1) (bw B + 1)], by rw [List.length_append, hl]; rfl, .inr (by rw [List.getElem?_set_ne (by omega)]; exact h3), fun j hj => ?_⟩
  · rw [hN]; exact set_high h.tl _
  · rcases Nat.lt_or_ge j (y + 1) with hlt | hge
    · obtain ⟨R, r1, r2, r3, r4, r5⟩ := hc j (by omega)
      have hR := (List.getElem?_eq_some_iff.1 r5).1
      refine ⟨R, r1, by omega, r3, by rw [List.getElem?_append_left (by omega)]; exact r4, ?_⟩
      rw [List.getElem?_set_ne (fun e => r1 e.symm), h1 R hR r2]
      exact r5
    · obtain rfl : j = y + 1 := by omega
      refine ⟨M'.length, by omega, by omega, hlm, by rw [List.getElem?_append_right (by omega), hl, Nat.sub_self]; rfl, ?_⟩
      rw [List.getElem?_set_ne (by omega)]
      exact h2
set_option maxHeartbeats 2000000 in
set_option maxRecDepth 100000 in
theorem NewTable_ok {m : AM} {sv : Value} {B : Brd} {g : Int} (hs : Strs m sv B) (hv : skinB B = true) (hg : 1 ≤ g ∧ g ≤ 9) :
    ACall Tryd.prog 63 #[sv, .int .i64 g] m (More (fun m' v => ∃ tp, m.length ≤ tp ∧ v = .tuple #[.pointer (some ⟨tp, 0, none⟩), .int .i64 0] ∧ TabAt m' tp B g) m) := by
  have hV := fun T => Valid_ok (hs.old T)
  rw [hv] at hV
  obtain ⟨A, O, sl, la, rd⟩ := id hs
  have hvv := hv
  simp only [skinB, Bool.and_eq_true, decide_eq_true_eq] at hvv
  have r0 := rd 0 (by omega)
  refine ACall.start Tryd.func63 rfl rfl ?_
  (repeat (first | (with_reducible refine AWo.cons ?_) | ((with_reducible refine Step.id ?_); first | ((with_reducible apply Step.gdT); exact rfl; exact rfl; (focus (rfl))) | ((with_reducible apply Step.move); exact rfl; exact rfl) | ((with_reducible apply Step.assign); exact rfl; exact rfl) | ((with_reducible apply Step.not); exact rfl; exact rfl) | ((with_reducible apply Step.pickF); exact rfl; exact rfl; exact rfl; exact rfl; (focus (rfl))) | ((with_reducible apply Step.callR fit); exact rfl; exact Tryd.func28; exact rfl; exact rfl; exact (hV _)) | ((with_reducible apply Step.callR fit); exact rfl; exact Tryd.func38; exact rfl; exact rfl; exact (least_ok hg))) | (with_reducible refine AWo.nil ?_) | ((fail_if_success (with_reducible refine AW.atR (id := 3) ?_)); ((with_reducible apply AW.seq))) | ((with_reducible apply Then.n)) | ((with_reducible apply AW.regL)) | ((with_reducible apply AW.skip)) | ((with_reducible apply AW.condF); exact rfl; (focus (rfl)))))
  have e1 : ((rowOf B 0).size : Int) + 1 = (((rowOf B 0).size + 1 : Nat) : Int) := by omega
  refine AW.joinS [(0, sv), (1, .int .i64 g), (6, .pointer (some ⟨m.length + 2, 0, none⟩))] (m ++ [some { cells := iv (List.replicate ((rowOf B 0).size + 1) 0) }, some { cells := [.slice (some ⟨m.length + 0, 0, none⟩) ((rowOf B 0).size + 1) ((rowOf B 0).size + 1)] }, some { cells := [.int .i64 ((rowOf B 0).size : Nat), .int .i64 (B.length : Nat), .slice (some ⟨m.length + 1, 0, none⟩) 1 1] }]) ?_ ?_
  · (repeat' (first | ((with_reducible refine Step.id ?_); first | ((with_reducible apply Step.move); exact rfl; exact rfl) | ((with_reducible apply Step.assign); exact rfl; exact rfl) | ((with_reducible apply Step.load); exact rfl; (focus (decide +kernel)); exact rfl; (focus (exact Rd.old _ (by assumption)))) | ((with_reducible apply Step.ix1 (k := 0)); exact rfl; (focus (assumption)); exact rfl; (focus (decide +kernel)); exact rfl; (focus (omega))) | ((with_reducible apply Step.addE); exact rfl; exact rfl; (focus (assumption)); (focus (omega)); exact rfl) | ((with_reducible apply Step.lenS); exact rfl; exact un9; exact rfl) | ((with_reducible apply Step.len); exact rfl; (focus (assumption)); (focus (decide +kernel)); exact rfl) | ((with_reducible apply Step.make1 0); exact rfl; exact rfl; exact rfl; exact el47; (focus (omega)); exact rfl; (focus (first | (simp only [List.nil_append, List.cons_append, List.set_cons_zero, List.set_cons_succ, iv_set, bv_set, iv_rep, bv_rep]; done) | (simp only [List.nil_append, List.cons_append, List.set_cons_zero, List.set_cons_succ, iv_set, bv_set, iv_rep, bv_rep]; rfl) | rfl))) | ((with_reducible apply Step.buildS 1); exact rfl; exact rfl; exact (fun _ _ => bs122); exact rfl; (focus (first | (simp only [List.nil_append, List.cons_append, List.set_cons_zero, List.set_cons_succ, iv_set, bv_set, iv_rep, bv_rep]; done) | (simp only [List.nil_append, List.cons_append, List.set_cons_zero, List.set_cons_succ, iv_set, bv_set, iv_rep, bv_rep]; rfl) | rfl))) | ((with_reducible apply Step.box 2); exact rfl; exact rfl; (focus (kernel_rfl)); exact rfl; (focus (first | (simp only [List.nil_append, List.cons_append, List.set_cons_zero, List.set_cons_succ, iv_set, bv_set, iv_rep, bv_rep]; done) | (simp only [List.nil_append, List.cons_append, List.set_cons_zero, List.set_cons_succ, iv_set, bv_set, iv_rep, bv_rep]; rfl) | rfl))) | ((with_reducible apply Step.build); exact rfl; exact bl160; exact rfl)) | ((with_reducible apply Then.n)) | ((with_reducible apply AW.drawT fit (T := (.step 0 (.step 1 (.step 4 (.step 5 (.step 6 (.step 7 (.step 8 (.step 9 (.step 10 (.both (.step 2 (.step 3 (.step 11 (.step 12 (.step 13 (.step 14 (.step 15 .done))))))) (.step 11 (.both (.step 2 (.step 3 (.step 12 (.step 13 (.step 14 (.step 15 .done)))))) (.step 12 (.step 2 (.step 3 (.step 13 (.step 14 (.step 15 .done)))))))))))))))))))); (focus (decide +kernel))) | ((with_reducible apply AWt.step); exact rfl) | ((with_reducible apply AWt.done)) | refine AWt.both ?_ ?_))
    all_goals exact ⟨rfl, (by repeat (first | exact trivial | (refine And.intro rfl ?_)))⟩
  have hP : TabP m (m ++ [some { cells := iv (tabRow B g 0) }, some { cells := [.slice (some ⟨m.length + 0, 0, none⟩) (bw B + 1) (bw B + 1)] }, some { cells := [.int .i64 (bw B : Nat), .int .i64 (bh B : Nat), .slice (some ⟨m.length + 1, 0, none⟩) 1 1] }]) (m.length + 2) (m.length + 1) B g 0 := by
    refine ⟨⟨_, rfl⟩, by omega, by omega, by omega, by rw [get_app]; rfl, _, rfl, .inl (by rw [get_app]; rfl), fun j hj => ?_⟩
    obtain rfl : j = 0 := by omega
    exact ⟨m.length + 0, by omega, by omega, by omega, rfl, by rw [get_app]; rfl⟩
  rw [tabRow_zero] at hP
  change TabP m (m ++ [some { cells := iv (List.replicate ((rowOf B 0).size + 1) 0) }, some { cells := [.slice (some ⟨m.length + 0, 0, none⟩) ((rowOf B 0).size + 1) ((rowOf B 0).size + 1)] }, some { cells := [.int .i64 ((rowOf B 0).size : Nat), .int .i64 (B.length : Nat), .slice (some ⟨m.length + 1, 0, none⟩) 1 1] }]) _ _ B g 0 at hP
  generalize (m ++ _ : AM) = M at hP ⊢
  generalize m.length + 2 = tp at hP ⊢
  generalize m.length + 1 = S0 at hP
  have tb := hP.tb
  have t1 : Rd M tp 1 (.int .i64 (bh B : Nat)) := ⟨_, tb, rfl⟩
  (repeat (first | (with_reducible refine AWo.cons ?_) | ((with_reducible refine Step.id ?_); first | ((with_reducible apply Step.move); exact rfl; exact rfl) | ((with_reducible apply Step.load); exact rfl; (focus (decide +kernel)); exact rfl; (focus (assumption))) | ((with_reducible apply Step.field (k := 1)); exact rfl; (focus (decide +kernel)); exact rfl) | ((with_reducible apply Step.nilp); exact rfl; exact rfl)) | (with_reducible refine AWo.nil ?_) | ((with_reducible apply AW.seq)) | ((with_reducible apply Then.n)) | ((with_reducible apply AW.regL)) | ((with_reducible apply AW.block))))
  clear t1 tb
  refine AW.loopW (fun n t M' => ∃ (y S : Nat), n = bh B - y ∧ y ≤ bh B ∧ TabP m M' tp S B g y ∧ t = fr [(0, sv), (1, .int .i64 g), (6, .pointer (some ⟨tp, 0, none⟩)), (37, .int .i64 (bh B : Nat)), (38, .int .i64 (y : Nat))])
    ⟨_, _, (by repeat (first | exact trivial | (refine And.intro rfl ?_))), 0, S0, rfl, Nat.zero_le _, hP, rfl⟩ ?_
  clear hP
  rintro n t M' ⟨y, S, rfl, hy, hP, rfl⟩
  have tb := hP.tb
  have t0 : Rd M' tp 0 (.int .i64 (bw B : Nat)) := ⟨_, tb, rfl⟩
  have t1 : Rd M' tp 1 (.int .i64 (bh B : Nat)) := ⟨_, tb, rfl⟩
  have t2 : Rd M' tp 2 (.slice (some ⟨S, 0, none⟩) (y + 1) (y + 1)) := ⟨_, tb, rfl⟩
  rcases Nat.lt_or_ge y (bh B) with hlt | hge
  · refine AW.rebase ?_
    have hsM : Strs M' sv B := by obtain ⟨N, hN⟩ := hP.low; rw [hN]; exact hs.old N
    have e2 : (bw B : Int) + 1 = ((bw B + 1 : Nat) : Int) := by omega
    have hbw : bw B ≤ 48 := by unfold bw; omega
    have hbh : bh B ≤ 48 := by unfold bh; omega
    (repeat (first | (with_reducible refine AWo.cons ?_) | ((with_reducible refine Step.id ?_); first | ((with_reducible apply Step.move); exact rfl; exact rfl) | ((with_reducible apply Step.assign); exact rfl; exact rfl) | ((with_reducible apply Step.load); exact rfl; (focus (decide +kernel)); exact rfl; (focus (exact Rd.old _ (by assumption)))) | ((with_reducible apply Step.field0); exact rfl; (focus (decide +kernel)); exact rfl) | ((with_reducible apply Step.addE); exact rfl; exact rfl; (focus (assumption)); (focus (omega)); exact rfl) | ((with_reducible apply Step.lss); exact rfl; exact rfl; exact rfl) | ((with_reducible apply Step.nilp); exact rfl; exact rfl) | ((with_reducible apply Step.make1 0); exact rfl; exact rfl; exact rfl; exact el47; (focus (omega)); exact rfl; (focus (first | (simp only [List.nil_append, List.cons_append, List.set_cons_zero, List.set_cons_succ, iv_set, bv_set, iv_rep, bv_rep]; done) | (simp only [List.nil_append, List.cons_append, List.set_cons_zero, List.set_cons_succ, iv_set, bv_set, iv_rep, bv_rep]; rfl) | rfl)))) | (with_reducible refine AWo.nil ?_) | ((with_reducible apply AW.seq)) | ((with_reducible apply Then.n)) | ((with_reducible apply AW.regL)) | ((with_reducible apply AW.block)) | ((with_reducible apply AW.skip)) | ((with_reducible apply AW.condT); exact rfl; (focus ((simp only [decide_eq_true_eq, decide_eq_false_iff_not, Bool.not_eq_true', Bool.not_eq_false', Bool.not_true, Bool.not_false]; first | assumption | omega))))))
    rw [← rowP_zero B g y]
    refine AW.loopT (fun n t L => ∃ x : Nat, n = bw B - x ∧ x ≤ bw B ∧ L = [some { cells := iv (rowP B g y x) }] ∧
      t = [(0, sv), (1, .int .i64 g), (6, .pointer (some ⟨tp, 0, none⟩)), (7, .int .i64 (y : Nat)), (8, .slice (some ⟨M'.length + 0, 0, none⟩) (bw B + 1) (bw B + 1)), (9, .int .i64 (rowc B g y 0 x : Nat)), (37, .int .i64 (bh B : Nat)), (38, .int .i64 (y : Nat)), (50, .int .i64 (bw B : Nat)), (51, .int .i64 (x : Nat))])
      ⟨_, _, _, (Or.inl ⟨rfl, (by repeat (first | exact trivial | (refine And.intro rfl ?_)))⟩), 0, rfl, Nat.zero_le _, rfl, rfl⟩ ?_
    rintro n t L ⟨x, rfl, hx, rfl, rfl⟩
    obtain ⟨cs, hcl, hcs, hrow⟩ := hP.sb
    obtain ⟨R, r1, r2, r3, r4, r5⟩ := hrow y (Nat.le_refl _)
    have tS : Rd M' S y (.slice (some ⟨R, 0, none⟩) (bw B + 1) (bw B + 1)) := by rcases hcs with h | h <;> exact ⟨_, h, r4⟩
    rcases Nat.lt_or_ge x (bw B) with hxl | hxg
    · have hG := fun T => grade_ok (hsM.old T) hv hlt hxl
      have e3 : (x : Int) + 1 = ((x + 1 : Nat) : Int) := by omega
      have tR := tabRow_rd (x := x + 1) r5 (by omega)
      have hcc := (cnt_cell (B := B) (g := g) y x).symm
      have hb : cnt B g 0 0 (x + 1) (y + 1) ≤ 48 * 48 := Nat.le_trans (cnt_le ..) (Nat.mul_le_mul (by omega) (by omega))
      by_cases hgr : g ≤ gr B x y
      · have er : (rowc B g y 0 x : Int) + 1 = ((rowc B g y 0 (x + 1) : Nat) : Int) := by simp [rowc, hgr]
        (repeat (first | (with_reducible refine AWo.cons ?_) | ((with_reducible refine Step.id ?_); first | ((with_reducible apply Step.move); exact rfl; exact rfl) | ((with_reducible apply Step.assign); exact rfl; exact rfl) | ((with_reducible apply Step.load); exact rfl; (focus (decide +kernel)); exact rfl; (focus (exact Rd.old _ (by assumption)))) | ((with_reducible apply Step.ix1z); exact rfl; (focus (exact Sl.mk (by omega))); exact rfl; (focus (decide +kernel)); exact rfl; (focus (omega))) | ((with_reducible apply Step.field (k := 2)); exact rfl; (focus (decide +kernel)); exact rfl) | ((with_reducible apply Step.addE); exact rfl; exact rfl; (focus (assumption)); (focus (omega)); exact rfl) | ((with_reducible apply Step.lss); exact rfl; exact rfl; exact rfl) | ((with_reducible apply Step.geq); exact rfl; exact rfl; exact rfl) | ((with_reducible apply Step.nilp); exact rfl; exact rfl) | ((with_reducible apply Step.callR fit); exact rfl; exact Tryd.func40; exact rfl; exact rfl; exact (hG _)) | ((with_reducible apply Step.store (k := 0)); exact rfl; exact rfl; exact rfl; exact rfl; (focus (decide +kernel)); exact rfl; exact rfl; (focus (first | omega | (simp [iv, bv]; done) | (simp [iv, bv]; omega))); (focus (first | (simp only [List.nil_append, List.cons_append, List.set_cons_zero, List.set_cons_succ, iv_set, bv_set, iv_rep, bv_rep]; done) | (simp only [List.nil_append, List.cons_append, List.set_cons_zero, List.set_cons_succ, iv_set, bv_set, iv_rep, bv_rep]; rfl) | rfl)))) | (with_reducible refine AWo.nil ?_) | ((with_reducible apply AW.seq)) | ((with_reducible apply Then.n)) | ((with_reducible apply AW.regL)) | ((with_reducible apply AW.block)) | ((with_reducible apply InBlk.n)) | ((with_reducible apply AW.skip)) | ((with_reducible apply AW.condT); exact rfl; (focus ((simp only [decide_eq_true_eq, decide_eq_false_iff_not, Bool.not_eq_true', Bool.not_eq_false', Bool.not_true, Bool.not_false]; first | assumption | omega))))))
        exact ⟨_, _, [some { cells := iv (rowP B g y (x + 1)) }], by omega, by rw [← rowP_set B g y x rfl]; exact (Or.inl ⟨rfl, (by repeat (first | exact trivial | (refine And.intro rfl ?_)))⟩), x + 1, rfl, by omega, rfl, rfl⟩
      · have er : rowc B g y 0 (x + 1) = rowc B g y 0 x := by simp [rowc, hgr]
        rw [er] at hcc
        (repeat (first | (with_reducible refine AWo.cons ?_) | ((with_reducible refine Step.id ?_); first | ((with_reducible apply Step.move); exact rfl; exact rfl) | ((with_reducible apply Step.assign); exact rfl; exact rfl) | ((with_reducible apply Step.load); exact rfl; (focus (decide +kernel)); exact rfl; (focus (exact Rd.old _ (by assumption)))) | ((with_reducible apply Step.ix1z); exact rfl; (focus (exact Sl.mk (by omega))); exact rfl; (focus (decide +kernel)); exact rfl; (focus (omega))) | ((with_reducible apply Step.field (k := 2)); exact rfl; (focus (decide +kernel)); exact rfl) | ((with_reducible apply Step.addE); exact rfl; exact rfl; (focus (assumption)); (focus (omega)); exact rfl) | ((with_reducible apply Step.lss); exact rfl; exact rfl; exact rfl) | ((with_reducible apply Step.geq); exact rfl; exact rfl; exact rfl) | ((with_reducible apply Step.nilp); exact rfl; exact rfl) | ((with_reducible apply Step.callR fit); exact rfl; exact Tryd.func40; exact rfl; exact rfl; exact (hG _)) | ((with_reducible apply Step.store (k := 0)); exact rfl; exact rfl; exact rfl; exact rfl; (focus (decide +kernel)); exact rfl; exact rfl; (focus (first | omega | (simp [iv, bv]; done) | (simp [iv, bv]; omega))); (focus (first | (simp only [List.nil_append, List.cons_append, List.set_cons_zero, List.set_cons_succ, iv_set, bv_set, iv_rep, bv_rep]; done) | (simp only [List.nil_append, List.cons_append, List.set_cons_zero, List.set_cons_succ, iv_set, bv_set, iv_rep, bv_rep]; rfl) | rfl)))) | (with_reducible refine AWo.nil ?_) | ((with_reducible apply AW.seq)) | ((with_reducible apply Then.n)) | ((with_reducible apply AW.regL)) | ((with_reducible apply AW.block)) | ((with_reducible apply InBlk.n)) | ((with_reducible apply AW.skip)) | ((with_reducible apply AW.condT); exact rfl; (focus ((simp only [decide_eq_true_eq, decide_eq_false_iff_not, Bool.not_eq_true', Bool.not_eq_false', Bool.not_true, Bool.not_false]; first | assumption | omega)))) | ((with_reducible apply AW.condF); exact rfl; (focus ((simp only [decide_eq_true_eq, decide_eq_false_iff_not, Bool.not_eq_true', Bool.not_eq_false', Bool.not_true, Bool.not_false]; first | assumption | omega))))))
        exact ⟨_, [(0, sv), (1, .int .i64 g), (6, .pointer (some ⟨tp, 0, none⟩)), (7, .int .i64 (y : Nat)), (8, .slice (some ⟨M'.length + 0, 0, none⟩) (bw B + 1) (bw B + 1)), (9, .int .i64 (rowc B g y 0 x : Nat)), (37, .int .i64 (bh B : Nat)), (38, .int .i64 (y : Nat)), (50, .int .i64 (bw B : Nat)), (51, .int .i64 (x + 1 : Nat))], [some { cells := iv (rowP B g y (x + 1)) }], by omega, by rw [← rowP_set B g y x rfl]; exact (Or.inl ⟨rfl, (by repeat (first | exact trivial | (refine And.intro rfl ?_)))⟩), x + 1, rfl, by omega, rfl, by rw [er]⟩
    · obtain rfl : x = bw B := by omega
      rw [rowP_full]
      (repeat (first | (with_reducible refine AWo.cons ?_) | ((with_reducible refine Step.id ?_); first | ((with_reducible apply Step.move); exact rfl; exact rfl) | ((with_reducible apply Step.load); exact rfl; (focus (decide +kernel)); exact rfl; (focus (exact Rd.old _ (by assumption)))) | ((with_reducible apply Step.field (k := 2)); exact rfl; (focus (decide +kernel)); exact rfl) | ((with_reducible apply Step.lss); exact rfl; exact rfl; exact rfl) | ((with_reducible apply Step.nilp); exact rfl; exact rfl) | ((with_reducible apply Step.buildS 1); exact rfl; exact rfl; exact (fun _ _ => bs122); exact rfl; (focus (first | (simp only [List.nil_append, List.cons_append, List.set_cons_zero, List.set_cons_succ, iv_set, bv_set, iv_rep, bv_rep]; done) | (simp only [List.nil_append, List.cons_append, List.set_cons_zero, List.set_cons_succ, iv_set, bv_set, iv_rep, bv_rep]; rfl) | rfl)))) | (with_reducible refine AWo.nil ?_) | ((with_reducible apply AW.seq)) | ((with_reducible apply Then.n)) | ((with_reducible apply AW.regL)) | ((with_reducible apply AW.exit)) | ((with_reducible apply InBlk.hit)) | ((with_reducible apply Then.e)) | ((with_reducible apply AW.condF); exact rfl; (focus ((simp only [decide_eq_true_eq, decide_eq_false_iff_not, Bool.not_eq_true', Bool.not_eq_false', Bool.not_true, Bool.not_false]; first | assumption | omega))))))
      obtain ⟨N, hN⟩ := hP.low
      have hSl : S < M'.length := by rcases hcs with h | h <;> exact (List.getElem?_eq_some_iff.1 h).1
      have htl : tp < M'.length := (List.getElem?_eq_some_iff.1 tb).1
      rcases hcs with hcs | hcs
      · ((with_reducible apply Step.appOG); exact rfl; exact rfl; exact el122; exact rfl; exact (get_old _ hcs); exact hcl; (focus (rw [get_app]; rfl)); exact rfl; (focus (omega)); exact rfl)
        (repeat (first | (with_reducible refine AWo.cons ?_) | ((with_reducible refine Step.id ?_); first | ((with_reducible apply Step.field (k := 2)); exact rfl; (focus (decide +kernel)); exact rfl) | ((with_reducible apply Step.nilp); exact rfl; exact rfl))))
        ((with_reducible apply Step.storeC); exact rfl; exact rfl; exact (get_old _ (get_old _ tb)); exact rfl; (focus (decide +kernel)); exact rfl; exact rfl; (focus (simp)))
        (repeat (first | (with_reducible refine AWo.cons ?_) | ((with_reducible refine Step.id ?_); first | ((with_reducible apply Step.move); exact rfl; exact rfl) | ((with_reducible apply Step.add); exact rfl; exact rfl; (focus (omega)); exact rfl)) | (with_reducible refine AWo.nil ?_) | ((with_reducible apply Then.n)) | ((with_reducible apply AW.regL)) | ((with_reducible apply InBlk.n))))
        refine ⟨_, _, ?_, (by repeat (first | exact trivial | (refine And.intro rfl ?_))), y + 1, (M' ++ ([some { cells := iv (tabRow B g (y + 1)) }, some { cells := [.slice (some ⟨M'.length + 0, 0, none⟩) (bw B + 1) (bw B + 1)] }] : AM) : AM).length, rfl, hlt, ?_, rfl⟩
        · omega
        refine hP.next hcl hrow (fun i hi _ => ?_) ?_ ?_ ?_ ?_
        · rw [List.append_assoc, List.getElem?_append_left hi]
        · rw [List.append_assoc, List.getElem?_append_right (Nat.le_refl _), Nat.sub_self]; rfl
        · rw [List.getElem?_append_right (Nat.le_refl _), Nat.sub_self]; rfl
        · simp
        · rw [hN]; exact ⟨_, by rw [List.append_assoc, List.append_assoc]⟩
      · ((with_reducible apply Step.appB); exact rfl; exact rfl; exact el122; exact rfl; exact (get_old _ hcs); exact hcl; (focus (rw [get_app]; rfl)); exact rfl; (focus (omega)); exact rfl)
        (repeat (first | (with_reducible refine AWo.cons ?_) | ((with_reducible refine Step.id ?_); first | ((with_reducible apply Step.field (k := 2)); exact rfl; (focus (decide +kernel)); exact rfl) | ((with_reducible apply Step.nilp); exact rfl; exact rfl))))
        ((with_reducible apply Step.storeC (b := { cells := [.int .i64 (bw B : Nat), .int .i64 (bh B : Nat), .slice (some ⟨S, 0, none⟩) (y + 1) (y + 1)] })); exact rfl; exact rfl; exact (get_old _ (by rw [List.getElem?_set_ne hP.ne]; exact get_old _ tb)); exact rfl; (focus (decide +kernel)); exact rfl; exact rfl; (focus (simp)))
        (repeat (first | (with_reducible refine AWo.cons ?_) | ((with_reducible refine Step.id ?_); first | ((with_reducible apply Step.move); exact rfl; exact rfl) | ((with_reducible apply Step.add); exact rfl; exact rfl; (focus (omega)); exact rfl)) | (with_reducible refine AWo.nil ?_) | ((with_reducible apply Then.n)) | ((with_reducible apply AW.regL)) | ((with_reducible apply InBlk.n))))
        refine ⟨_, _, ?_, (by repeat (first | exact trivial | (refine And.intro rfl ?_))), y + 1, (M' ++ ([some { cells := iv (tabRow B g (y + 1)) }, some { cells := [.slice (some ⟨M'.length + 0, 0, none⟩) (bw B + 1) (bw B + 1)] }] : AM) : AM).length, rfl, hlt, ?_, rfl⟩
        · omega
        rw [List.set_append_left _ _ hSl]
        refine hP.next hcl hrow (fun i hi hne => ?_) ?_ ?_ ?_ ?_
        · rw [List.append_assoc, List.getElem?_append_left (by simpa using hi), List.getElem?_set_ne (fun e => hne e.symm)]
        · rw [List.append_assoc, List.getElem?_append_right (by simp)]; simp
        · rw [List.append_assoc, List.getElem?_append_right (by simp)]; simp
        · simp
        · rw [hN]
          obtain ⟨N', hN'⟩ := set_high (N := N) hP.sl none
          exact ⟨_, by rw [hN', List.append_assoc, List.append_assoc]⟩
  · obtain rfl : y = bh B := by omega
    (repeat (first | (with_reducible refine AWo.cons ?_) | ((with_reducible refine Step.id ?_); first | ((with_reducible apply Step.move); exact rfl; exact rfl) | ((with_reducible apply Step.assign); exact rfl; exact rfl) | ((with_reducible apply Step.lss); exact rfl; exact rfl; exact rfl)) | (with_reducible refine AWo.nil ?_) | ((with_reducible apply AW.seq)) | ((with_reducible apply Then.n)) | ((with_reducible apply AW.regL)) | ((with_reducible apply AW.exit)) | ((with_reducible apply InBlk.hit)) | ((with_reducible apply Then.e)) | ((with_reducible apply AW.condF); exact rfl; (focus ((simp only [decide_eq_true_eq, decide_eq_false_iff_not, Bool.not_eq_true', Bool.not_eq_false', Bool.not_true, Bool.not_false]; first | assumption | omega))))))
    (refine AW.ret ?_; (repeat (first | refine Then.r ?_ | refine InBlk.r ?_)))
    obtain ⟨N, hN⟩ := hP.low
    exact ⟨_, rfl, N, hN, tp, hP.tl, rfl, hP.done⟩
end Go.Proofs.YtedbjmgchfgabaaDoor.Abs
namespace Go.Proofs.YtedbjmgchfgabaaDoor.Abs
set_option linter.unusedSimpArgs false
set_option linter.unusedVariables false
open Go.RowKit
open Go.Proofs.YtedbjmgchfgabaaDoor.Sim
open Go.Proofs
theorem un122s : Tryd.prog.underlying 163 = some (.slice 59) := by kernel_rfl
theorem un141 : Tryd.prog.underlying 122 = some (.pointer 165) := by kernel_rfl
def R4.rc (r : R4) : Rc := rcN r.x r.y r.a r.b
theorem cnt_le' {B : Brd} {g : Int} {a b : Nat} (ha : a ≤ 48) (hb : b ≤ 48) : cnt B g 0 0 a b ≤ 2304 := Nat.le_trans (cnt_le ..) (Nat.mul_le_mul ha hb)
set_option maxHeartbeats 2000000 in
set_option maxRecDepth 100000 in
theorem count_ok {m : AM} {tp : Nat} {B : Brd} {g : Int} (hT : TabAt m tp B g) (hw : bw B ≤ 48) (hh : bh B ≤ 48) {r : R4} (hr : r.ok (bw B) (bh B)) :
    ACall Tryd.prog 122 #[.pointer (some ⟨tp, 0, none⟩), r.rc.v] m (Ret (.int .i64 (cnt B g r.x r.y r.a r.b : Nat)) m) := by
  obtain ⟨x, y, a, b⟩ := r
  simp only [R4.ok] at hr
  obtain ⟨h1, h2, S, t2, hrow⟩ := hT
  obtain ⟨R1, s1, c1⟩ := hrow y (by omega)
  obtain ⟨R2, s2, c2⟩ := hrow (y + b) (by omega)
  have e1 : (y : Int) + (b : Int) = ((y + b : Nat) : Int) := by omega
  have e2 : (x : Int) + (a : Int) = ((x + a : Nat) : Int) := by omega
  have d1 := c1 x (by omega)
  have d2 := c1 (x + a) (by omega)
  have d3 := c2 x (by omega)
  have d4 := c2 (x + a) (by omega)
  have b1 := cnt_le' (B := B) (g := g) (a := x) (b := y) (by omega) (by omega)
  have b2 := cnt_le' (B := B) (g := g) (a := x + a) (b := y) (by omega) (by omega)
  have b3 := cnt_le' (B := B) (g := g) (a := x) (b := y + b) (by omega) (by omega)
  have b4 := cnt_le' (B := B) (g := g) (a := x + a) (b := y + b) (by omega) (by omega)
  have hc := cnt_corners B g x y a b
  change ACall Tryd.prog 122 #[.pointer (some ⟨tp, 0, none⟩), .agg #[.int .i64 (x : Nat), .int .i64 (y : Nat), .int .i64 (a : Nat), .int .i64 (b : Nat)]] m (Ret (.int .i64 (cnt B g x y a b : Nat)) m)
  refine ACall.start Tryd.func122 rfl rfl ?_
  (repeat (first | (with_reducible refine AWo.cons ?_) | ((with_reducible refine Step.id ?_); first | ((with_reducible apply Step.move); exact rfl; exact rfl) | ((with_reducible apply Step.assign); exact rfl; exact rfl) | ((with_reducible apply Step.load); exact rfl; (focus (decide +kernel)); exact rfl; (focus (first | exact Rd.new rfl rfl | exact Rd.old _ (by assumption)))) | ((with_reducible apply Step.ix1z); exact rfl; (focus (exact Sl.mk (by omega))); exact rfl; (focus (decide +kernel)); exact rfl; (focus (omega))) | ((with_reducible apply Step.field0); exact rfl; (focus (decide +kernel)); exact rfl) | ((with_reducible apply Step.field (k := 1)); exact rfl; (focus (decide +kernel)); exact rfl) | ((with_reducible apply Step.field (k := 2)); exact rfl; (focus (decide +kernel)); exact rfl) | ((with_reducible apply Step.field (k := 3)); exact rfl; (focus (decide +kernel)); exact rfl) | ((with_reducible apply Step.addE); exact rfl; exact rfl; (focus (assumption)); (focus (omega)); exact rfl) | ((with_reducible apply Step.add); exact rfl; exact rfl; (focus (omega)); exact rfl) | ((with_reducible apply Step.sub); exact rfl; exact rfl; (focus (omega)); exact rfl) | ((with_reducible apply Step.nilp); exact rfl; exact rfl) | ((with_reducible apply Step.box 0); exact rfl; exact rfl; (focus (kernel_rfl)); exact rfl; (focus (first | (simp only [List.nil_append, List.cons_append, List.set_cons_zero, List.set_cons_succ, iv_set, bv_set, iv_rep, bv_rep]; done) | (simp only [List.nil_append, List.cons_append, List.set_cons_zero, List.set_cons_succ, iv_set, bv_set, iv_rep, bv_rep]; rfl) | rfl)))) | (with_reducible refine AWo.nil ?_) | ((with_reducible apply AW.seq)) | ((with_reducible apply Then.n)) | ((with_reducible apply AW.regL)) | ((with_reducible apply AW.drawL fit); (focus (decide +kernel)))))
  (refine AW.retD (l := [(4, _)]) (by repeat (first | exact trivial | (refine And.intro ⟨rfl, by (exact .int _ _)⟩ ?_))) ?_; (repeat (first | refine Then.r ?_ | refine InBlk.r ?_)))
  exact ⟨_, rfl, by rw [hc], rfl⟩
theorem rc_right {w h : Nat} {r : R4} (hr : r.ok w h) : rightB r.rc = true := by
  obtain ⟨x, y, a, b⟩ := r
  simp only [R4.ok] at hr
  have : 1 ≤ (a : Int) ∧ 1 ≤ (b : Int) ∧ 0 ≤ (x : Int) ∧ 0 ≤ (y : Int) := by omega
  exact decide_eq_true this
theorem rc_lies {w h : Nat} {r : R4} (hr : r.ok w h) : liesB r.rc (w : Nat) (h : Nat) = true := by
  obtain ⟨x, y, a, b⟩ := r
  simp only [R4.ok] at hr
  have : (a : Int) ≤ (w : Int) ∧ (x : Int) ≤ (w : Int) - (a : Int) ∧ (b : Int) ≤ (h : Int) ∧ (y : Int) ≤ (h : Int) - (b : Int) := by omega
  exact decide_eq_true this
set_option maxHeartbeats 2000000 in
set_option maxRecDepth 100000 in
theorem Count_ok {m : AM} {tp : Nat} {B : Brd} {g : Int} (hT : TabAt m tp B g) (hw : bw B ≤ 48) (hh : bh B ≤ 48) {r : R4} (hr : r.ok (bw B) (bh B)) :
    ACall Tryd.prog 102 #[.pointer (some ⟨tp, 0, none⟩), r.rc.v] m (Ret (.tuple #[.int .i64 (cnt B g r.x r.y r.a r.b : Nat), .int .i64 0]) m) := by
  have f1 := fun T => count_ok (hT.old T) hw hh hr
  have f2 := fun m => right_ok (m := m) r.rc
  have f3 := fun m => inside_ok (m := m) r.rc (bw B : Nat) (bh B : Nat) (rc_right hr) (by omega) (by omega)
  rw [rc_right hr] at f2
  rw [rc_lies hr] at f3
  obtain ⟨h1, h2, S, t2, hrow⟩ := hT
  refine ACall.start Tryd.func102 rfl rfl ?_
  (repeat (first | (with_reducible refine AWo.cons ?_) | ((with_reducible refine Step.id ?_); first | ((with_reducible apply Step.gdT); exact rfl; exact rfl; (focus (rfl))) | ((with_reducible apply Step.move); exact rfl; exact rfl) | ((with_reducible apply Step.assign); exact rfl; exact rfl) | ((with_reducible apply Step.load); exact rfl; (focus (decide +kernel)); exact rfl; (focus (exact Rd.old _ (by assumption)))) | ((with_reducible apply Step.loadL (n := 4)); exact rfl; (focus (decide +kernel)); (focus (decide +kernel)); exact rfl; (focus (exact RdL.new rfl rfl)); exact rfl; exact rfl) | ((with_reducible apply Step.field0); exact rfl; (focus (decide +kernel)); exact rfl) | ((with_reducible apply Step.field (k := 1)); exact rfl; (focus (decide +kernel)); exact rfl) | ((with_reducible apply Step.field (k := 2)); exact rfl; (focus (decide +kernel)); exact rfl) | ((with_reducible apply Step.ptrNot); exact rfl; exact rfl; exact un141; exact rfl) | ((with_reducible apply Step.eqNil); exact rfl; exact rfl; exact un122s; exact rfl) | ((with_reducible apply Step.not); exact rfl; exact rfl) | ((with_reducible apply Step.nilp); exact rfl; exact rfl) | ((with_reducible apply Step.pickF); exact rfl; exact rfl; exact rfl; exact rfl; (focus (rfl))) | ((with_reducible apply Step.callR fit); exact rfl; exact Tryd.func120; exact rfl; exact rfl; exact (f2 _)) | ((with_reducible apply Step.callR fit); exact rfl; exact Tryd.func121; exact rfl; exact rfl; exact (f3 _)) | ((with_reducible apply Step.callR fit); exact rfl; exact Tryd.func122; exact rfl; exact rfl; exact (f1 _)) | ((with_reducible apply Step.box 0); exact rfl; exact rfl; (focus (kernel_rfl)); exact rfl; (focus (first | (simp only [List.nil_append, List.cons_append, List.set_cons_zero, List.set_cons_succ, iv_set, bv_set, iv_rep, bv_rep]; done) | (simp only [List.nil_append, List.cons_append, List.set_cons_zero, List.set_cons_succ, iv_set, bv_set, iv_rep, bv_rep]; rfl) | rfl)))) | (with_reducible refine AWo.nil ?_) | ((with_reducible apply AW.seq)) | ((with_reducible apply Then.n)) | ((with_reducible apply AW.regL)) | ((with_reducible apply AW.block)) | ((with_reducible apply AW.drawL fit); (focus (decide +kernel))) | ((with_reducible apply InBlk.n)) | ((with_reducible apply AW.skip)) | ((with_reducible apply AW.condF); exact rfl; (focus (rfl)))))
  (refine AW.retD (l := [(4, _), (5, _)]) (by repeat (first | exact trivial | (refine And.intro ⟨rfl, by (exact .int _ _)⟩ ?_))) ?_; (repeat (first | refine Then.r ?_ | refine InBlk.r ?_)))
  exact ⟨_, rfl, rfl, rfl⟩
end Go.Proofs.YtedbjmgchfgabaaDoor.Abs
namespace Go.Proofs.YtedbjmgchfgabaaDoor.Abs
set_option linter.unusedSimpArgs false
set_option linter.unusedVariables false
open Go.RowKit
open Go.Proofs.YtedbjmgchfgabaaDoor.Sim
open Go.Proofs
/-- The kinds of a slice. -/
def Kds (m : AM) (v : Value) (K : List Kd) : Prop := ∃ a o, Sl v a o K.length ∧ a < m.length ∧ ∀ i, i < K.length → RdL m a (o + i * 5) (K.getD i default).cells
theorem Kds.old {m : AM} {v : Value} {K : List Kd} (h : Kds m v K) (L : AM) : Kds (m ++ L) v K := by
  obtain ⟨a, o, h1, h2, h3⟩ := h
  exact ⟨a, o, h1, by rw [List.length_append]; omega, fun i hi => (h3 i hi).old L⟩
theorem Sl.shape {v : Value} {a o n : Nat} (h : Sl v a o n) : ∃ q c, v = .slice q n c := by
  rcases h with ⟨rfl, rfl⟩ | ⟨c, _, rfl⟩ | ⟨rfl, _, _, rfl⟩
  · exact ⟨_, _, rfl⟩
  · exact ⟨_, _, rfl⟩
  · exact ⟨_, _, rfl⟩
theorem rd_set {m : AM} {a o q : Nat} {v : Value} {b : Blk} (h : Rd m a o v) (hq : m[q]? = some (some b)) (hb : b.cells = []) (X : Option Blk) : Rd (m.set q X) a o v := by
  obtain ⟨c, h1, h2⟩ := h
  refine ⟨c, ?_, h2⟩
  rw [List.getElem?_set_ne]
  · exact h1
  · rintro rfl
    rw [hq] at h1
    injection h1 with h1
    injection h1 with h1
    subst h1
    rw [hb] at h2
    simp at h2
theorem TabAt.set {m : AM} {tp q : Nat} {B : Brd} {g : Int} {b : Blk} (h : TabAt m tp B g) (hq : m[q]? = some (some b)) (hb : b.cells = []) (X : Option Blk) : TabAt (m.set q X) tp B g := by
  obtain ⟨h1, h2, S, h3, h4⟩ := h
  refine ⟨rd_set h1 hq hb X, rd_set h2 hq hb X, S, rd_set h3 hq hb X, fun y hy => ?_⟩
  obtain ⟨R, h5, h6⟩ := h4 y hy
  exact ⟨R, rd_set h5 hq hb X, fun x hx => rd_set (h6 x hx) hq hb X⟩
/-- A board. -/
structure BoardAt (m : AM) (p : Nat) (B : Brd) (K : List Kd) : Prop where
  rows : ∃ v, Rd m p 0 v ∧ Strs m v B
  kinds : ∃ v, Rd m p 1 v ∧ Kds m v K
  w : Rd m p 2 (.int .i64 (bw B : Nat))
  h : Rd m p 3 (.int .i64 (bh B : Nat))
  tabs : ∃ q l b, Rd m p 4 (.map (some q)) ∧ m[q]? = some (some b) ∧ isMapK b.kind = true ∧ b.ents = mks l ∧ ∀ i, i < K.length → ∃ tp, mlook l (K.getD i default).g = some (.pointer (some ⟨tp, 0, none⟩)) ∧ TabAt m tp B (K.getD i default).g
theorem BoardAt.old {m : AM} {p : Nat} {B : Brd} {K : List Kd} (h : BoardAt m p B K) (L : AM) : BoardAt (m ++ L) p B K := by
  obtain ⟨⟨v, h1, h2⟩, ⟨u, h3, h4⟩, h5, h6, q, l, b, h7, h8, h9, h10, h11⟩ := h
  refine ⟨⟨v, h1.old L, h2.old L⟩, ⟨u, h3.old L, h4.old L⟩, h5.old L, h6.old L, q, l, b, h7.old L, get_old _ h8, h9, h10, fun i hi => ?_⟩
  obtain ⟨tp, h12, h13⟩ := h11 i hi
  exact ⟨tp, h12, h13.old L⟩
/-- A board of which the tables of i kinds are made. -/
structure BrdP (m0 m : AM) (p q : Nat) (sv kv : Value) (B : Brd) (K : List Kd) (i : Nat) : Prop where
  low : ∃ N, m = m0 ++ N
  ql : m0.length ≤ q
  pb : m[p]? = some (some { cells := [sv, kv, .int .i64 (bw B : Nat), .int .i64 (bh B : Nat), .map (some q)] })
  qb : ∃ l, m[q]? = some (some { cells := [], kind := .map, ents := mks l }) ∧ (∀ g v, mlook l g = some v → ∃ tp, v = .pointer (some ⟨tp, 0, none⟩) ∧ TabAt m tp B g) ∧ ∀ j, j < i → (mlook l (K.getD j default).g).isSome = true
theorem BrdP.done {m0 m : AM} {p q : Nat} {sv kv : Value} {B : Brd} {K : List Kd} (h : BrdP m0 m p q sv kv B K K.length) (hs : Strs m0 sv B) (hk : Kds m0 kv K) : BoardAt m p B K := by
  obtain ⟨N, hN⟩ := h.low
  obtain ⟨l, h1, h2, h3⟩ := h.qb
  refine ⟨⟨sv, ⟨_, h.pb, rfl⟩, by rw [hN]; exact hs.old N⟩, ⟨kv, ⟨_, h.pb, rfl⟩, by rw [hN]; exact hk.old N⟩, ⟨_, h.pb, rfl⟩, ⟨_, h.pb, rfl⟩, q, l, _, ⟨_, h.pb, rfl⟩, h1, rfl, rfl, fun i hi => ?_⟩
  have := h3 i hi
  obtain ⟨v, hv⟩ := Option.isSome_iff_exists.1 this
  obtain ⟨tp, rfl, ht⟩ := h2 _ _ hv
  exact ⟨tp, hv, ht⟩
theorem mlook_app (l : List (Int × Value)) (g : Int) (v : Value) (k : Int) : mlook (l ++ [(g, v)]) k = match mlook l k with | some x => some x | none => if k = g then some v else none := by
  induction l with
  | nil => simp [mlook]
  | cons e l ih =>
    simp only [List.cons_append, mlook]
    by_cases h : k = e.1
    · simp [h]
    · simp only [if_neg h, ih]
theorem BrdP.same {m0 m : AM} {p q : Nat} {sv kv : Value} {B : Brd} {K : List Kd} {i : Nat} {l : List (Int × Value)} (h : BrdP m0 m p q sv kv B K i) (L : AM) (h1 : m[q]? = some (some { cells := [], kind := .map, ents := mks l })) (h2 : ∀ g v, mlook l g = some v → ∃ tp, v = .pointer (some ⟨tp, 0, none⟩) ∧ TabAt m tp B g)
    (h3 : ∀ j, j < i → (mlook l (K.getD j default).g).isSome = true) (hn : (mlook l (K.getD i default).g).isSome = true) : BrdP m0 (m ++ L) p q sv kv B K (i + 1) := by
  obtain ⟨N, hN⟩ := h.low
  refine ⟨⟨N ++ L, by rw [hN, List.append_assoc]⟩, h.ql, get_old _ h.pb, l, get_old _ h1, fun g v hv => ?_, fun j hj => ?_⟩
  · obtain ⟨tp, e, ht⟩ := h2 g v hv
    exact ⟨tp, e, ht.old L⟩
  · rcases Nat.lt_succ_iff_lt_or_eq.1 hj with hj | rfl
    · exact h3 j hj
    · exact hn
theorem BrdP.more {m0 m m1 : AM} {p q tp : Nat} {sv kv : Value} {B : Brd} {K : List Kd} {i : Nat} {l : List (Int × Value)} (h : BrdP m0 m p q sv kv B K i) (hpq : p ≠ q) (hm : ∃ L, m1 = m ++ L) (h1 : m[q]? = some (some { cells := [], kind := .map, ents := mks l })) (hT : TabAt m1 tp B (K.getD i default).g)
    (h2 : ∀ g v, mlook l g = some v → ∃ tp, v = .pointer (some ⟨tp, 0, none⟩) ∧ TabAt m tp B g) (h3 : ∀ j, j < i → (mlook l (K.getD j default).g).isSome = true) :
    BrdP m0 (m1.set q (some { cells := [], kind := .map, ents := mks (l ++ [((K.getD i default).g, .pointer (some ⟨tp, 0, none⟩))]) })) p q sv kv B K (i + 1) := by
  obtain ⟨L, rfl⟩ := hm
  obtain ⟨N, hN⟩ := h.low
  have hq := get_old L h1
  have hql := (List.getElem?_eq_some_iff.1 hq).1
  refine ⟨?_, h.ql, by rw [List.getElem?_set_ne (fun e => hpq e.symm)]; exact get_old _ h.pb, _, List.getElem?_set_self hql, fun g v hv => ?_, fun j hj => ?_⟩
  · rw [hN, List.append_assoc]; exact set_high h.ql _
  · rw [mlook_app] at hv
    cases hl : mlook l g with
    | some x =>
      rw [hl] at hv
      simp only [Option.some.injEq] at hv
      subst hv
      obtain ⟨tp', e, ht⟩ := h2 g _ hl
      exact ⟨tp', e, (ht.old L).set hq rfl _⟩
    | none =>
      rw [hl] at hv
      simp only at hv
      split at hv
      · rename_i e
        subst e
        simp only [Option.some.injEq] at hv
        exact ⟨tp, hv.symm, hT.set hq rfl _⟩
      · cases hv
  · rw [mlook_app]
    cases hl : mlook l (K.getD j default).g with
    | some x => rfl
    | none =>
      rcases Nat.lt_succ_iff_lt_or_eq.1 hj with hj | rfl
      · have := h3 j hj; rw [hl] at this; cases this
      · simp
theorem un100 : Tryd.prog.underlying 78 = some (.pointer 84) := by kernel_rfl
theorem un103 : Tryd.prog.underlying 82 = some (.map 3 122) := by kernel_rfl
theorem zr141 : zeroG Tryd.prog 122 = some (.pointer none) := by kernel_rfl
theorem bl105 {w h : Int} {n c n' c' : Nat} {q q' : Option Addr} {mp : Option Nat} : abuild Tryd.prog 84 [(0, .slice q n c), (1, .slice q' n' c'), (2, .int .i64 w), (3, .int .i64 h), (4, .map mp)] = some (.agg #[.slice q n c, .slice q' n' c', .int .i64 w, .int .i64 h, .map mp]) := by kernel_rfl
theorem ze99 : zeroB Tryd.prog 77 = some #[.int .i64 0, .int .i64 0, .int .i64 0, .int .i64 0, .bool false] := by kernel_rfl
theorem kinds_no {K : List Kd} {i : Nat} (hi : i < K.length) (h : kdB (K.getD i default) = false) : kindsB K = false := by
  rw [Bool.eq_false_iff]
  intro hc
  rw [kinds_get hc hi] at h
  cases h
theorem kinds_all {K : List Kd} (h1 : K.length ≤ 12) (h : ∀ i, i < K.length → kdB (K.getD i default) = true) : kindsB K = true := by
  unfold kindsB
  simp only [Bool.and_eq_true, decide_eq_true_eq, List.all_eq_true]
  refine ⟨h1, fun x hx => ?_⟩
  obtain ⟨i, hi, rfl⟩ := List.getElem_of_mem hx
  have := h i hi
  rwa [getD_in _ _ hi] at this
end Go.Proofs.YtedbjmgchfgabaaDoor.Abs
namespace Go.Proofs.YtedbjmgchfgabaaDoor.Abs
set_option linter.unusedSimpArgs false
set_option linter.unusedVariables false
open Go.RowKit
open Go.Proofs.YtedbjmgchfgabaaDoor.Sim
open Go.Proofs
theorem rowB_no {n : Nat} {s : ByteArray} {i : Nat} (hi : i < s.size) (h : ¬ (48 ≤ byteAt s i ∧ byteAt s i ≤ 57)) : rowB n s = false := by
  rw [Bool.eq_false_iff]
  intro hc
  simp only [rowB, Bool.and_eq_true, List.all_eq_true, List.mem_range, decide_eq_true_eq] at hc
  exact h (hc.2 i hi)
theorem rowB_yes {n : Nat} {s : ByteArray} (hs : s.size = n) (h : ∀ i, i < s.size → 48 ≤ byteAt s i ∧ byteAt s i ≤ 57) : rowB n s = true := by
  simp only [rowB, Bool.and_eq_true, List.all_eq_true, List.mem_range, decide_eq_true_eq]
  exact ⟨hs, h⟩
set_option maxRecDepth 100000 in
theorem RValid_ok {m : AM} {sv : Value} {B : Brd} (hs : Strs m sv B) : ACall Tryd.prog 9 #[sv] m (Ret (.bool (skinB B)) m) := by
  obtain ⟨A, O, sl, la, rd⟩ := hs
  refine ACall.start Tryd.func9 rfl rfl ?_
  by_cases h1 : B.length < 1
  · have e : skinB B = false := by simp [skinB]; omega
    (repeat (first | (with_reducible refine AWo.cons ?_) | ((with_reducible refine Step.id ?_); first | ((with_reducible apply Step.gdF); exact rfl; exact rfl; (focus (first | rfl | (simp only [decide_eq_true_eq, decide_eq_false_iff_not, Bool.not_eq_true', Bool.not_eq_false', Bool.not_true, Bool.not_false]; first | assumption | omega)))) | ((with_reducible apply Step.move); exact rfl; exact rfl) | ((with_reducible apply Step.assign); exact rfl; exact rfl) | ((with_reducible apply Step.lss); exact rfl; exact rfl; exact rfl) | ((with_reducible apply Step.len); exact rfl; (focus (assumption)); (focus (decide +kernel)); exact rfl) | ((with_reducible apply Step.pickT); exact rfl; exact rfl; exact rfl; exact rfl; (focus (first | rfl | (simp only [decide_eq_true_eq, decide_eq_false_iff_not, Bool.not_eq_true', Bool.not_eq_false', Bool.not_true, Bool.not_false]; first | assumption | omega))))) | (with_reducible refine AWo.nil ?_) | ((with_reducible apply AW.seq)) | ((with_reducible apply Then.n)) | ((with_reducible apply AW.regL)) | ((with_reducible apply AW.condT); exact rfl; (focus (rfl)))))
    (refine AW.retD (l := [(2, _)]) (by repeat (first | exact trivial | (refine And.intro ⟨rfl, by (exact .bool _)⟩ ?_))) ?_; (repeat (first | refine Then.r ?_ | refine InBlk.r ?_)))
    exact ⟨_, rfl, by rw [e], rfl⟩
  by_cases h2 : 48 < B.length
  · have e : skinB B = false := by simp [skinB]; omega
    (repeat (first | (with_reducible refine AWo.cons ?_) | ((with_reducible refine Step.id ?_); first | ((with_reducible apply Step.gdT); exact rfl; exact rfl; (focus ((simp only [decide_eq_true_eq, decide_eq_false_iff_not, Bool.not_eq_true', Bool.not_eq_false', Bool.not_true, Bool.not_false]; first | assumption | omega)))) | ((with_reducible apply Step.gdF); exact rfl; exact rfl; (focus (first | rfl | (simp only [decide_eq_true_eq, decide_eq_false_iff_not, Bool.not_eq_true', Bool.not_eq_false', Bool.not_true, Bool.not_false]; first | assumption | omega)))) | ((with_reducible apply Step.move); exact rfl; exact rfl) | ((with_reducible apply Step.assign); exact rfl; exact rfl) | ((with_reducible apply Step.lss); exact rfl; exact rfl; exact rfl) | ((with_reducible apply Step.gtr); exact rfl; exact rfl; exact rfl) | ((with_reducible apply Step.len); exact rfl; (focus (assumption)); (focus (decide +kernel)); exact rfl) | ((with_reducible apply Step.pickT); exact rfl; exact rfl; exact rfl; exact rfl; (focus (first | rfl | (simp only [decide_eq_true_eq, decide_eq_false_iff_not, Bool.not_eq_true', Bool.not_eq_false', Bool.not_true, Bool.not_false]; first | assumption | omega)))) | ((with_reducible apply Step.pickF); exact rfl; exact rfl; exact rfl; exact rfl; (focus ((simp only [decide_eq_true_eq, decide_eq_false_iff_not, Bool.not_eq_true', Bool.not_eq_false', Bool.not_true, Bool.not_false]; first | assumption | omega))))) | (with_reducible refine AWo.nil ?_) | ((with_reducible apply AW.seq)) | ((with_reducible apply Then.n)) | ((with_reducible apply AW.regL)) | ((with_reducible apply AW.condT); exact rfl; (focus (rfl)))))
    (refine AW.retD (l := [(2, _)]) (by repeat (first | exact trivial | (refine And.intro ⟨rfl, by (exact .bool _)⟩ ?_))) ?_; (repeat (first | refine Then.r ?_ | refine InBlk.r ?_)))
    exact ⟨_, rfl, by rw [e], rfl⟩
  have r0 := rd 0 (by omega)
  by_cases h3 : (rowOf B 0).size < 1
  · have e : skinB B = false := by simp [skinB]; omega
    (repeat (first | (with_reducible refine AWo.cons ?_) | ((with_reducible refine Step.id ?_); first | ((with_reducible apply Step.gdT); exact rfl; exact rfl; (focus ((simp only [decide_eq_true_eq, decide_eq_false_iff_not, Bool.not_eq_true', Bool.not_eq_false', Bool.not_true, Bool.not_false]; first | assumption | omega)))) | ((with_reducible apply Step.gdF); exact rfl; exact rfl; (focus ((simp only [decide_eq_true_eq, decide_eq_false_iff_not, Bool.not_eq_true', Bool.not_eq_false', Bool.not_true, Bool.not_false]; first | assumption | omega)))) | ((with_reducible apply Step.move); exact rfl; exact rfl) | ((with_reducible apply Step.assign); exact rfl; exact rfl) | ((with_reducible apply Step.load); exact rfl; (focus (decide +kernel)); exact rfl; (focus (exact Rd.old _ (by assumption)))) | ((with_reducible apply Step.ix1 (k := 0)); exact rfl; (focus (assumption)); exact rfl; (focus (decide +kernel)); exact rfl; (focus (omega))) | ((with_reducible apply Step.lenS); exact rfl; exact un9; exact rfl) | ((with_reducible apply Step.lss); exact rfl; exact rfl; exact rfl) | ((with_reducible apply Step.gtr); exact rfl; exact rfl; exact rfl) | ((with_reducible apply Step.len); exact rfl; (focus (assumption)); (focus (decide +kernel)); exact rfl) | ((with_reducible apply Step.pickT); exact rfl; exact rfl; exact rfl; exact rfl; (focus ((simp only [decide_eq_true_eq, decide_eq_false_iff_not, Bool.not_eq_true', Bool.not_eq_false', Bool.not_true, Bool.not_false]; first | assumption | omega)))) | ((with_reducible apply Step.pickF); exact rfl; exact rfl; exact rfl; exact rfl; (focus ((simp only [decide_eq_true_eq, decide_eq_false_iff_not, Bool.not_eq_true', Bool.not_eq_false', Bool.not_true, Bool.not_false]; first | assumption | omega))))) | (with_reducible refine AWo.nil ?_) | ((with_reducible apply AW.seq)) | ((with_reducible apply Then.n)) | ((with_reducible apply AW.regL)) | ((with_reducible apply AW.condT); exact rfl; (focus (rfl)))))
    (refine AW.retD (l := [(2, _)]) (by repeat (first | exact trivial | (refine And.intro ⟨rfl, by (exact .bool _)⟩ ?_))) ?_; (repeat (first | refine Then.r ?_ | refine InBlk.r ?_)))
    exact ⟨_, rfl, by rw [e], rfl⟩
  by_cases h4 : 48 < (rowOf B 0).size
  · have e : skinB B = false := by simp [skinB]; omega
    (repeat (first | (with_reducible refine AWo.cons ?_) | ((with_reducible refine Step.id ?_); first | ((with_reducible apply Step.gdT); exact rfl; exact rfl; (focus ((simp only [decide_eq_true_eq, decide_eq_false_iff_not, Bool.not_eq_true', Bool.not_eq_false', Bool.not_true, Bool.not_false]; first | assumption | omega)))) | ((with_reducible apply Step.move); exact rfl; exact rfl) | ((with_reducible apply Step.assign); exact rfl; exact rfl) | ((with_reducible apply Step.load); exact rfl; (focus (decide +kernel)); exact rfl; (focus (exact Rd.old _ (by assumption)))) | ((with_reducible apply Step.ix1 (k := 0)); exact rfl; (focus (assumption)); exact rfl; (focus (decide +kernel)); exact rfl; (focus (omega))) | ((with_reducible apply Step.lenS); exact rfl; exact un9; exact rfl) | ((with_reducible apply Step.lss); exact rfl; exact rfl; exact rfl) | ((with_reducible apply Step.gtr); exact rfl; exact rfl; exact rfl) | ((with_reducible apply Step.len); exact rfl; (focus (assumption)); (focus (decide +kernel)); exact rfl) | ((with_reducible apply Step.pickF); exact rfl; exact rfl; exact rfl; exact rfl; (focus ((simp only [decide_eq_true_eq, decide_eq_false_iff_not, Bool.not_eq_true', Bool.not_eq_false', Bool.not_true, Bool.not_false]; first | assumption | omega))))) | (with_reducible refine AWo.nil ?_) | ((with_reducible apply AW.seq)) | ((with_reducible apply Then.n)) | ((with_reducible apply AW.regL)) | ((with_reducible apply AW.condT); exact rfl; (focus ((simp only [decide_eq_true_eq, decide_eq_false_iff_not, Bool.not_eq_true', Bool.not_eq_false', Bool.not_true, Bool.not_false]; first | assumption | omega))))))
    (refine AW.retD (l := [(2, _)]) (by repeat (first | exact trivial | (refine And.intro ⟨rfl, by (exact .bool _)⟩ ?_))) ?_; (repeat (first | refine Then.r ?_ | refine InBlk.r ?_)))
    exact ⟨_, rfl, by rw [e], rfl⟩
  have hk := skinB_rows (B := B) (by omega)
  (repeat (first | (with_reducible refine AWo.cons ?_) | ((with_reducible refine Step.id ?_); first | ((with_reducible apply Step.gdT); exact rfl; exact rfl; (focus ((simp only [decide_eq_true_eq, decide_eq_false_iff_not, Bool.not_eq_true', Bool.not_eq_false', Bool.not_true, Bool.not_false]; first | assumption | omega)))) | ((with_reducible apply Step.move); exact rfl; exact rfl) | ((with_reducible apply Step.assign); exact rfl; exact rfl) | ((with_reducible apply Step.load); exact rfl; (focus (decide +kernel)); exact rfl; (focus (exact Rd.old _ (by assumption)))) | ((with_reducible apply Step.ix1 (k := 0)); exact rfl; (focus (assumption)); exact rfl; (focus (decide +kernel)); exact rfl; (focus (omega))) | ((with_reducible apply Step.lenS); exact rfl; exact un9; exact rfl) | ((with_reducible apply Step.lss); exact rfl; exact rfl; exact rfl) | ((with_reducible apply Step.gtr); exact rfl; exact rfl; exact rfl) | ((with_reducible apply Step.len); exact rfl; (focus (assumption)); (focus (decide +kernel)); exact rfl) | ((with_reducible apply Step.pickF); exact rfl; exact rfl; exact rfl; exact rfl; (focus ((simp only [decide_eq_true_eq, decide_eq_false_iff_not, Bool.not_eq_true', Bool.not_eq_false', Bool.not_true, Bool.not_false]; first | assumption | omega))))) | (with_reducible refine AWo.nil ?_) | ((with_reducible apply AW.seq)) | ((with_reducible apply Then.n)) | ((with_reducible apply AW.regL)) | ((with_reducible apply AW.block)) | ((with_reducible apply AW.skip)) | ((with_reducible apply AW.condF); exact rfl; (focus ((simp only [decide_eq_true_eq, decide_eq_false_iff_not, Bool.not_eq_true', Bool.not_eq_false', Bool.not_true, Bool.not_false]; first | assumption | omega))))))
  refine AW.loopT (fun n t L => ∃ k : Nat, n = B.length - k ∧ k ≤ B.length ∧ L = [] ∧ (∀ y, y < k → rowB (rowOf B 0).size (rowOf B y) = true) ∧
    t = [(0, sv), (28, sv), (29, .int .i64 (B.length : Nat)), (30, .int .i64 (k : Nat))])
    ⟨_, _, _, (Or.inl ⟨rfl, (by repeat (first | exact trivial | (refine And.intro rfl ?_)))⟩), 0, rfl, Nat.zero_le _, rfl, fun y hy => by omega, rfl⟩ ?_
  rintro n t L ⟨k, rfl, hkk, rfl, hr, rfl⟩
  rcases Nat.lt_or_ge k B.length with hlt | hge
  · have rk := rd k hlt
    by_cases h5 : (rowOf B k).size = (rowOf B 0).size
    · (repeat (first | (with_reducible refine AWo.cons ?_) | ((with_reducible refine Step.id ?_); first | ((with_reducible apply Step.move); exact rfl; exact rfl) | ((with_reducible apply Step.assign); exact rfl; exact rfl) | ((with_reducible apply Step.load); exact rfl; (focus (decide +kernel)); exact rfl; (focus (exact Rd.old _ (by assumption)))) | ((with_reducible apply Step.ix1); exact rfl; (focus (assumption)); exact rfl; (focus (decide +kernel)); exact rfl; (focus (omega))) | ((with_reducible apply Step.ix1 (k := 0)); exact rfl; (focus (assumption)); exact rfl; (focus (decide +kernel)); exact rfl; (focus (omega))) | ((with_reducible apply Step.lenS); exact rfl; exact un9; exact rfl) | ((with_reducible apply Step.lss); exact rfl; exact rfl; exact rfl) | ((with_reducible apply Step.neq); exact rfl; exact rfl; exact rfl)) | (with_reducible refine AWo.nil ?_) | ((with_reducible apply AW.seq)) | ((with_reducible apply Then.n)) | ((with_reducible apply AW.regL)) | ((with_reducible apply AW.block)) | ((with_reducible apply AW.skip)) | ((with_reducible apply AW.condT); exact rfl; (focus ((simp only [decide_eq_true_eq, decide_eq_false_iff_not, Bool.not_eq_true', Bool.not_eq_false', Bool.not_true, Bool.not_false]; first | assumption | omega)))) | ((with_reducible apply AW.condF); exact rfl; (focus ((simp only [decide_eq_true_eq, decide_eq_false_iff_not, Bool.not_eq_true', Bool.not_eq_false', Bool.not_true, Bool.not_false]; first | assumption | omega))))))
      refine AW.loopT (fun n t L => ∃ i : Nat, n = (rowOf B k).size - i ∧ i ≤ (rowOf B k).size ∧ L = [] ∧ (∀ j, j < i → 48 ≤ byteAt (rowOf B k) j ∧ byteAt (rowOf B k) j ≤ 57) ∧
        t = [(0, sv), (4, .string (rowOf B k)), (28, sv), (29, .int .i64 (B.length : Nat)), (30, .int .i64 (k : Nat)), (42, .int .i64 ((rowOf B k).size : Nat)), (43, .int .i64 (i : Nat))])
        ⟨_, _, _, (Or.inl ⟨rfl, (by repeat (first | exact trivial | (refine And.intro rfl ?_)))⟩), 0, rfl, Nat.zero_le _, rfl, fun y hy => by omega, rfl⟩ ?_
      rintro n t L ⟨i, rfl, hi, rfl, hc, rfl⟩
      rcases Nat.lt_or_ge i (rowOf B k).size with hil | hig
      · by_cases h6 : byteAt (rowOf B k) i < 48
        · (repeat (first | (with_reducible refine AWo.cons ?_) | ((with_reducible refine Step.id ?_); first | ((with_reducible apply Step.gdF); exact rfl; exact rfl; (focus ((simp only [decide_eq_true_eq, decide_eq_false_iff_not, Bool.not_eq_true', Bool.not_eq_false', Bool.not_true, Bool.not_false]; first | assumption | omega)))) | ((with_reducible apply Step.move); exact rfl; exact rfl) | ((with_reducible apply Step.assign); exact rfl; exact rfl) | ((with_reducible apply Step.strIx); exact rfl; exact rfl; exact un9; (focus (omega)); exact rfl) | ((with_reducible apply Step.lss); exact rfl; exact rfl; exact rfl) | ((with_reducible apply Step.pickT); exact rfl; exact rfl; exact rfl; exact rfl; (focus ((simp only [decide_eq_true_eq, decide_eq_false_iff_not, Bool.not_eq_true', Bool.not_eq_false', Bool.not_true, Bool.not_false]; first | assumption | omega))))) | (with_reducible refine AWo.nil ?_) | ((with_reducible apply AW.seq)) | ((with_reducible apply Then.n)) | ((with_reducible apply AW.regL)) | ((with_reducible apply AW.block)) | ((with_reducible apply AW.skip)) | ((with_reducible apply AW.condT); exact rfl; (focus (first | rfl | (simp only [decide_eq_true_eq, decide_eq_false_iff_not, Bool.not_eq_true', Bool.not_eq_false', Bool.not_true, Bool.not_false]; first | assumption | omega))))))
          (refine AW.retD (l := [(2, _)]) (by repeat (first | exact trivial | (refine And.intro ⟨rfl, by (exact .bool _)⟩ ?_))) ?_; (repeat (first | refine Then.r ?_ | refine InBlk.r ?_)))
          exact ⟨_, rfl, by rw [hk, not_rows hlt (rowB_no hil (by omega))], rfl⟩
        by_cases h7 : 57 < byteAt (rowOf B k) i
        · (repeat (first | (with_reducible refine AWo.cons ?_) | ((with_reducible refine Step.id ?_); first | ((with_reducible apply Step.gdT); exact rfl; exact rfl; (focus ((simp only [decide_eq_true_eq, decide_eq_false_iff_not, Bool.not_eq_true', Bool.not_eq_false', Bool.not_true, Bool.not_false]; first | assumption | omega)))) | ((with_reducible apply Step.move); exact rfl; exact rfl) | ((with_reducible apply Step.assign); exact rfl; exact rfl) | ((with_reducible apply Step.strIx); exact rfl; exact rfl; exact un9; (focus (omega)); exact rfl) | ((with_reducible apply Step.lss); exact rfl; exact rfl; exact rfl) | ((with_reducible apply Step.gtr); exact rfl; exact rfl; exact rfl) | ((with_reducible apply Step.pickF); exact rfl; exact rfl; exact rfl; exact rfl; (focus ((simp only [decide_eq_true_eq, decide_eq_false_iff_not, Bool.not_eq_true', Bool.not_eq_false', Bool.not_true, Bool.not_false]; first | assumption | omega))))) | (with_reducible refine AWo.nil ?_) | ((with_reducible apply AW.seq)) | ((with_reducible apply Then.n)) | ((with_reducible apply AW.regL)) | ((with_reducible apply AW.block)) | ((with_reducible apply AW.skip)) | ((with_reducible apply AW.condT); exact rfl; (focus ((simp only [decide_eq_true_eq, decide_eq_false_iff_not, Bool.not_eq_true', Bool.not_eq_false', Bool.not_true, Bool.not_false]; first | assumption | omega))))))
          (refine AW.retD (l := [(2, _)]) (by repeat (first | exact trivial | (refine And.intro ⟨rfl, by (exact .bool _)⟩ ?_))) ?_; (repeat (first | refine Then.r ?_ | refine InBlk.r ?_)))
          exact ⟨_, rfl, by rw [hk, not_rows hlt (rowB_no hil (by omega))], rfl⟩
        (repeat (first | (with_reducible refine AWo.cons ?_) | ((with_reducible refine Step.id ?_); first | ((with_reducible apply Step.gdT); exact rfl; exact rfl; (focus ((simp only [decide_eq_true_eq, decide_eq_false_iff_not, Bool.not_eq_true', Bool.not_eq_false', Bool.not_true, Bool.not_false]; first | assumption | omega)))) | ((with_reducible apply Step.move); exact rfl; exact rfl) | ((with_reducible apply Step.assign); exact rfl; exact rfl) | ((with_reducible apply Step.strIx); exact rfl; exact rfl; exact un9; (focus (omega)); exact rfl) | ((with_reducible apply Step.add); exact rfl; exact rfl; (focus (omega)); exact rfl) | ((with_reducible apply Step.lss); exact rfl; exact rfl; exact rfl) | ((with_reducible apply Step.gtr); exact rfl; exact rfl; exact rfl) | ((with_reducible apply Step.pickF); exact rfl; exact rfl; exact rfl; exact rfl; (focus ((simp only [decide_eq_true_eq, decide_eq_false_iff_not, Bool.not_eq_true', Bool.not_eq_false', Bool.not_true, Bool.not_false]; first | assumption | omega))))) | (with_reducible refine AWo.nil ?_) | ((with_reducible apply AW.seq)) | ((with_reducible apply Then.n)) | ((with_reducible apply AW.regL)) | ((with_reducible apply AW.block)) | ((with_reducible apply InBlk.n)) | ((with_reducible apply AW.skip)) | ((with_reducible apply AW.condT); exact rfl; (focus ((simp only [decide_eq_true_eq, decide_eq_false_iff_not, Bool.not_eq_true', Bool.not_eq_false', Bool.not_true, Bool.not_false]; first | assumption | omega)))) | ((with_reducible apply AW.condF); exact rfl; (focus ((simp only [decide_eq_true_eq, decide_eq_false_iff_not, Bool.not_eq_true', Bool.not_eq_false', Bool.not_true, Bool.not_false]; first | assumption | omega))))))
        exact ⟨_, _, _, by omega, (Or.inl ⟨rfl, (by repeat (first | exact trivial | (refine And.intro rfl ?_)))⟩), i + 1, rfl, by omega, rfl, fun y hy => by
          rcases Nat.lt_succ_iff_lt_or_eq.1 hy with h | rfl
          · exact hc y h
          · omega, rfl⟩
      · obtain rfl : i = (rowOf B k).size := by omega
        (repeat (first | (with_reducible refine AWo.cons ?_) | ((with_reducible refine Step.id ?_); first | ((with_reducible apply Step.move); exact rfl; exact rfl) | ((with_reducible apply Step.add); exact rfl; exact rfl; (focus (omega)); exact rfl) | ((with_reducible apply Step.lss); exact rfl; exact rfl; exact rfl)) | (with_reducible refine AWo.nil ?_) | ((with_reducible apply AW.seq)) | ((with_reducible apply Then.n)) | ((with_reducible apply AW.regL)) | ((with_reducible apply AW.exit)) | ((with_reducible apply InBlk.n)) | ((with_reducible apply InBlk.hit)) | ((with_reducible apply Then.e)) | ((with_reducible apply AW.condF); exact rfl; (focus ((simp only [decide_eq_true_eq, decide_eq_false_iff_not, Bool.not_eq_true', Bool.not_eq_false', Bool.not_true, Bool.not_false]; first | assumption | omega))))))
        exact ⟨_, _, _, by omega, (Or.inl ⟨rfl, (by repeat (first | exact trivial | (refine And.intro rfl ?_)))⟩), k + 1, rfl, by omega, rfl, fun y hy => by
          rcases Nat.lt_succ_iff_lt_or_eq.1 hy with h | rfl
          · exact hr y h
          · exact rowB_yes h5 hc, rfl⟩
    · (repeat (first | (with_reducible refine AWo.cons ?_) | ((with_reducible refine Step.id ?_); first | ((with_reducible apply Step.move); exact rfl; exact rfl) | ((with_reducible apply Step.assign); exact rfl; exact rfl) | ((with_reducible apply Step.load); exact rfl; (focus (decide +kernel)); exact rfl; (focus (exact Rd.old _ (by assumption)))) | ((with_reducible apply Step.ix1); exact rfl; (focus (assumption)); exact rfl; (focus (decide +kernel)); exact rfl; (focus (omega))) | ((with_reducible apply Step.ix1 (k := 0)); exact rfl; (focus (assumption)); exact rfl; (focus (decide +kernel)); exact rfl; (focus (omega))) | ((with_reducible apply Step.lenS); exact rfl; exact un9; exact rfl) | ((with_reducible apply Step.lss); exact rfl; exact rfl; exact rfl) | ((with_reducible apply Step.neq); exact rfl; exact rfl; exact rfl)) | (with_reducible refine AWo.nil ?_) | ((with_reducible apply AW.seq)) | ((with_reducible apply Then.n)) | ((with_reducible apply AW.regL)) | ((with_reducible apply AW.block)) | ((with_reducible apply AW.skip)) | ((with_reducible apply AW.condT); exact rfl; (focus ((simp only [decide_eq_true_eq, decide_eq_false_iff_not, Bool.not_eq_true', Bool.not_eq_false', Bool.not_true, Bool.not_false]; first | assumption | omega))))))
      (refine AW.retD (l := [(2, _)]) (by repeat (first | exact trivial | (refine And.intro ⟨rfl, by (exact .bool _)⟩ ?_))) ?_; (repeat (first | refine Then.r ?_ | refine InBlk.r ?_)))
      exact ⟨_, rfl, by rw [hk, not_rows hlt (by simp [rowB, h5])], rfl⟩
  · obtain rfl : k = B.length := by omega
    (repeat (first | (with_reducible refine AWo.cons ?_) | ((with_reducible refine Step.id ?_); first | ((with_reducible apply Step.assign); exact rfl; exact rfl) | ((with_reducible apply Step.lss); exact rfl; exact rfl; exact rfl)) | (with_reducible refine AWo.nil ?_) | ((with_reducible apply AW.seq)) | ((with_reducible apply Then.n)) | ((with_reducible apply AW.regL)) | ((with_reducible apply AW.exit)) | ((with_reducible apply InBlk.hit)) | ((with_reducible apply Then.e)) | ((with_reducible apply AW.condF); exact rfl; (focus ((simp only [decide_eq_true_eq, decide_eq_false_iff_not, Bool.not_eq_true', Bool.not_eq_false', Bool.not_true, Bool.not_false]; first | assumption | omega))))))
    (refine AW.retD (l := [(2, _)]) (by repeat (first | exact trivial | (refine And.intro ⟨rfl, by (exact .bool _)⟩ ?_))) ?_; (repeat (first | refine Then.r ?_ | refine InBlk.r ?_)))
    exact ⟨_, rfl, by rw [hk, all_rows hr], rfl⟩
set_option maxRecDepth 100000 in
theorem RBoard_ok {m : AM} {sv : Value} {B : Brd} (hs : Strs m sv B) : ACall Tryd.prog 32 #[sv] m (Ret (.bool (boardB B)) m) := by
  have hV := fun T => RValid_ok (hs.old T)
  obtain ⟨A, O, sl, la, rd⟩ := hs
  refine ACall.start Tryd.func32 rfl rfl ?_
  cases hv : skinB B with
  | false =>
    rw [hv] at hV
    (repeat (first | (with_reducible refine AWo.cons ?_) | ((with_reducible refine Step.id ?_); first | ((with_reducible apply Step.gdF); exact rfl; exact rfl; (focus (rfl))) | ((with_reducible apply Step.move); exact rfl; exact rfl) | ((with_reducible apply Step.assign); exact rfl; exact rfl) | ((with_reducible apply Step.pickF); exact rfl; exact rfl; exact rfl; exact rfl; (focus (rfl))) | ((with_reducible apply Step.callR fit); exact rfl; exact Tryd.func9; exact rfl; exact rfl; exact (hV _))) | (with_reducible refine AWo.nil ?_) | ((with_reducible apply AW.seq)) | ((with_reducible apply Then.n)) | ((with_reducible apply AW.regL))))
    (refine AW.retD (l := [(2, _)]) (by repeat (first | exact trivial | (refine And.intro ⟨rfl, by (exact .bool _)⟩ ?_))) ?_; (repeat (first | refine Then.r ?_ | refine InBlk.r ?_)))
    exact ⟨_, rfl, by simp [boardB, hv], rfl⟩
  | true =>
    rw [hv] at hV
    have hvv := hv
    simp only [skinB, Bool.and_eq_true, decide_eq_true_eq] at hvv
    have r0 := rd 0 (by omega)
    by_cases h1 : B.length ≤ 16
    · (repeat (first | (with_reducible refine AWo.cons ?_) | ((with_reducible refine Step.id ?_); first | ((with_reducible apply Step.gdT); exact rfl; exact rfl; (focus (first | rfl | (simp only [decide_eq_true_eq, decide_eq_false_iff_not, Bool.not_eq_true', Bool.not_eq_false', Bool.not_true, Bool.not_false]; first | assumption | omega)))) | ((with_reducible apply Step.move); exact rfl; exact rfl) | ((with_reducible apply Step.assign); exact rfl; exact rfl) | ((with_reducible apply Step.load); exact rfl; (focus (decide +kernel)); exact rfl; (focus (exact Rd.old _ (by assumption)))) | ((with_reducible apply Step.ix1 (k := 0)); exact rfl; (focus (assumption)); exact rfl; (focus (decide +kernel)); exact rfl; (focus (omega))) | ((with_reducible apply Step.lenS); exact rfl; exact un9; exact rfl) | ((with_reducible apply Step.leq); exact rfl; exact rfl; exact rfl) | ((with_reducible apply Step.len); exact rfl; (focus (assumption)); (focus (decide +kernel)); exact rfl) | ((with_reducible apply Step.pickT); exact rfl; exact rfl; exact rfl; exact rfl; (focus (first | rfl | (simp only [decide_eq_true_eq, decide_eq_false_iff_not, Bool.not_eq_true', Bool.not_eq_false', Bool.not_true, Bool.not_false]; first | assumption | omega)))) | ((with_reducible apply Step.callR fit); exact rfl; exact Tryd.func9; exact rfl; exact rfl; exact (hV _))) | (with_reducible refine AWo.nil ?_) | ((with_reducible apply AW.seq)) | ((with_reducible apply Then.n)) | ((with_reducible apply AW.regL))))
      (refine AW.retD (l := [(2, _)]) (by repeat (first | exact trivial | (refine And.intro ⟨rfl, by (exact .bool _)⟩ ?_))) ?_; (repeat (first | refine Then.r ?_ | refine InBlk.r ?_)))
      exact ⟨_, rfl, by simp [boardB, hv, h1]; congr 1; constructor <;> intro h <;> omega, rfl⟩
    · (repeat (first | (with_reducible refine AWo.cons ?_) | ((with_reducible refine Step.id ?_); first | ((with_reducible apply Step.gdT); exact rfl; exact rfl; (focus (rfl))) | ((with_reducible apply Step.gdF); exact rfl; exact rfl; (focus ((simp only [decide_eq_true_eq, decide_eq_false_iff_not, Bool.not_eq_true', Bool.not_eq_false', Bool.not_true, Bool.not_false]; first | assumption | omega)))) | ((with_reducible apply Step.move); exact rfl; exact rfl) | ((with_reducible apply Step.assign); exact rfl; exact rfl) | ((with_reducible apply Step.leq); exact rfl; exact rfl; exact rfl) | ((with_reducible apply Step.len); exact rfl; (focus (assumption)); (focus (decide +kernel)); exact rfl) | ((with_reducible apply Step.pickT); exact rfl; exact rfl; exact rfl; exact rfl; (focus (rfl))) | ((with_reducible apply Step.pickF); exact rfl; exact rfl; exact rfl; exact rfl; (focus ((simp only [decide_eq_true_eq, decide_eq_false_iff_not, Bool.not_eq_true', Bool.not_eq_false', Bool.not_true, Bool.not_false]; first | assumption | omega)))) | ((with_reducible apply Step.callR fit); exact rfl; exact Tryd.func9; exact rfl; exact rfl; exact (hV _))) | (with_reducible refine AWo.nil ?_) | ((with_reducible apply AW.seq)) | ((with_reducible apply Then.n)) | ((with_reducible apply AW.regL))))
      (refine AW.retD (l := [(2, _)]) (by repeat (first | exact trivial | (refine And.intro ⟨rfl, by (exact .bool _)⟩ ?_))) ?_; (repeat (first | refine Then.r ?_ | refine InBlk.r ?_)))
      exact ⟨_, rfl, by simp [boardB, hv, h1], rfl⟩
theorem ze33 : zeroB Tryd.prog 32 = some #[.int .i64 0, .int .i64 0, .int .i64 0, .int .i64 0, .bool false] := by kernel_rfl
set_option maxHeartbeats 4000000 in
set_option maxRecDepth 100000 in
theorem RKinds_ok {m : AM} {kv : Value} {K : List Kd} (hk : Kds m kv K) : ACall Tryd.prog 33 #[kv] m (Ret (.bool (kindsB K)) m) := by
  obtain ⟨A, O, sl, la, rd⟩ := hk
  obtain ⟨q, c, rfl⟩ := sl.shape
  have wl : Low m.length (.slice q K.length c) := Low.of_sl sl la
  refine ACall.start Tryd.func33 rfl rfl ?_
  by_cases h1 : 12 < K.length
  · (repeat (first | (with_reducible refine AWo.cons ?_) | ((with_reducible refine Step.id ?_); first | ((with_reducible apply Step.move); exact rfl; exact rfl) | ((with_reducible apply Step.assign); exact rfl; exact rfl) | ((with_reducible apply Step.gtr); exact rfl; exact rfl; exact rfl) | ((with_reducible apply Step.len); exact rfl; (focus (assumption)); (focus (decide +kernel)); exact rfl)) | (with_reducible refine AWo.nil ?_) | ((with_reducible apply AW.seq)) | ((with_reducible apply Then.n)) | ((with_reducible apply AW.regL)) | ((with_reducible apply AW.condT); exact rfl; (focus ((simp only [decide_eq_true_eq, decide_eq_false_iff_not, Bool.not_eq_true', Bool.not_eq_false', Bool.not_true, Bool.not_false]; first | assumption | omega))))))
    (refine AW.retD (l := [(2, _)]) (by repeat (first | exact trivial | (refine And.intro ⟨rfl, by (exact .bool _)⟩ ?_))) ?_; (repeat (first | refine Then.r ?_ | refine InBlk.r ?_)))
    exact ⟨_, rfl, by simp [kindsB]; omega, rfl⟩
  (repeat (first | (with_reducible refine AWo.cons ?_) | ((with_reducible refine Step.id ?_); first | ((with_reducible apply Step.move); exact rfl; exact rfl) | ((with_reducible apply Step.assign); exact rfl; exact rfl) | ((with_reducible apply Step.gtr); exact rfl; exact rfl; exact rfl) | ((with_reducible apply Step.len); exact rfl; (focus (assumption)); (focus (decide +kernel)); exact rfl)) | (with_reducible refine AWo.nil ?_) | ((with_reducible apply AW.seq)) | ((with_reducible apply Then.n)) | ((with_reducible apply AW.regL)) | ((with_reducible apply AW.block)) | ((with_reducible apply AW.skip)) | ((with_reducible apply AW.condF); exact rfl; (focus ((simp only [decide_eq_true_eq, decide_eq_false_iff_not, Bool.not_eq_true', Bool.not_eq_false', Bool.not_true, Bool.not_false]; first | assumption | omega))))))
  refine AW.loopT (fun n t L => ∃ i : Nat, n = K.length - i ∧ i ≤ K.length ∧ L = [] ∧ (∀ j, j < i → kdB (K.getD j default) = true) ∧
    t = [(0, .slice q K.length c), (8, .slice q K.length c), (9, .int .i64 (K.length : Nat)), (10, .int .i64 (i : Nat))])
    ⟨_, _, _, (Or.inl ⟨rfl, (by repeat (first | exact trivial | (refine And.intro rfl ?_)))⟩), 0, rfl, Nat.zero_le _, rfl, fun j hj => by omega, rfl⟩ ?_
  rintro n t L ⟨i, rfl, hi, rfl, hd, rfl⟩
  rcases Nat.lt_or_ge i K.length with hlt | hge
  · have rk := rd i hlt
    cases hkd : kdB (K.getD i default) with
    | false =>
      have e := kinds_no hlt hkd
      generalize K.getD i default = k at rk hkd
      obtain ⟨kw, kh, kg, ko, kt⟩ := k
      simp only [kdB, decide_eq_false_iff_not] at hkd
      simp only [Kd.cells] at rk
      by_cases h2 : kw < 1
      · (repeat (first | (with_reducible refine AWo.cons ?_) | ((with_reducible refine Step.id ?_); first | ((with_reducible apply Step.gdF); exact rfl; exact rfl; (focus (first | rfl | (simp only [decide_eq_true_eq, decide_eq_false_iff_not, Bool.not_eq_true', Bool.not_eq_false', Bool.not_true, Bool.not_false]; first | assumption | omega)))) | ((with_reducible apply Step.move); exact rfl; exact rfl) | ((with_reducible apply Step.assign); exact rfl; exact rfl) | ((with_reducible apply Step.load); exact rfl; (focus (decide +kernel)); exact rfl; (focus (exact Rd.new rfl rfl))) | ((with_reducible apply Step.loadL (n := 5)); exact rfl; (focus (decide +kernel)); (focus (decide +kernel)); exact rfl; (focus (exact RdL.old _ (by assumption))); exact rfl; exact rfl) | ((with_reducible apply Step.ix (s := 5)); exact rfl; (focus (assumption)); exact rfl; (focus (decide +kernel)); exact rfl; (focus (omega))) | ((with_reducible apply Step.field0); exact rfl; (focus (decide +kernel)); exact rfl) | ((with_reducible apply Step.lss); exact rfl; exact rfl; exact rfl) | ((with_reducible apply Step.pickT); exact rfl; exact rfl; exact rfl; exact rfl; (focus (first | rfl | (simp only [decide_eq_true_eq, decide_eq_false_iff_not, Bool.not_eq_true', Bool.not_eq_false', Bool.not_true, Bool.not_false]; first | assumption | omega)))) | ((with_reducible apply Step.alloc 0); exact rfl; exact ze33; exact rfl; (focus (first | (simp only [List.nil_append, List.cons_append, List.set_cons_zero, List.set_cons_succ, iv_set, bv_set, iv_rep, bv_rep]; done) | (simp only [List.nil_append, List.cons_append, List.set_cons_zero, List.set_cons_succ, iv_set, bv_set, iv_rep, bv_rep]; rfl) | rfl))) | ((with_reducible apply Step.storeA (k := 0) (n := 5)); exact rfl; exact rfl; exact rfl; exact rfl; (focus (decide +kernel)); exact rfl; (focus (kernel_rfl)); exact rfl; (focus (first | (simp only [List.nil_append, List.cons_append, List.set_cons_zero, List.set_cons_succ, iv_set, bv_set, iv_rep, bv_rep]; done) | (simp only [List.nil_append, List.cons_append, List.set_cons_zero, List.set_cons_succ, iv_set, bv_set, iv_rep, bv_rep]; rfl) | rfl)))) | (with_reducible refine AWo.nil ?_) | ((with_reducible apply AW.seq)) | ((with_reducible apply Then.n)) | ((with_reducible apply AW.regL)) | ((with_reducible apply AW.block)) | ((with_reducible apply AW.skip)) | ((with_reducible apply AW.condT); exact rfl; (focus (first | rfl | (simp only [decide_eq_true_eq, decide_eq_false_iff_not, Bool.not_eq_true', Bool.not_eq_false', Bool.not_true, Bool.not_false]; first | assumption | omega))))))
        (refine AW.retD (l := [(2, _)]) (by repeat (first | exact trivial | (refine And.intro ⟨rfl, by (exact .bool _)⟩ ?_))) ?_; (repeat (first | refine Then.r ?_ | refine InBlk.r ?_)))
        exact ⟨_, rfl, by rw [e], rfl⟩
      by_cases h3 : 16 < kw
      · (repeat (first | (with_reducible refine AWo.cons ?_) | ((with_reducible refine Step.id ?_); first | ((with_reducible apply Step.gdT); exact rfl; exact rfl; (focus ((simp only [decide_eq_true_eq, decide_eq_false_iff_not, Bool.not_eq_true', Bool.not_eq_false', Bool.not_true, Bool.not_false]; first | assumption | omega)))) | ((with_reducible apply Step.gdF); exact rfl; exact rfl; (focus (first | rfl | (simp only [decide_eq_true_eq, decide_eq_false_iff_not, Bool.not_eq_true', Bool.not_eq_false', Bool.not_true, Bool.not_false]; first | assumption | omega)))) | ((with_reducible apply Step.move); exact rfl; exact rfl) | ((with_reducible apply Step.assign); exact rfl; exact rfl) | ((with_reducible apply Step.load); exact rfl; (focus (decide +kernel)); exact rfl; (focus (exact Rd.new rfl rfl))) | ((with_reducible apply Step.loadL (n := 5)); exact rfl; (focus (decide +kernel)); (focus (decide +kernel)); exact rfl; (focus (exact RdL.old _ (by assumption))); exact rfl; exact rfl) | ((with_reducible apply Step.ix (s := 5)); exact rfl; (focus (assumption)); exact rfl; (focus (decide +kernel)); exact rfl; (focus (omega))) | ((with_reducible apply Step.field0); exact rfl; (focus (decide +kernel)); exact rfl) | ((with_reducible apply Step.lss); exact rfl; exact rfl; exact rfl) | ((with_reducible apply Step.gtr); exact rfl; exact rfl; exact rfl) | ((with_reducible apply Step.pickT); exact rfl; exact rfl; exact rfl; exact rfl; (focus (first | rfl | (simp only [decide_eq_true_eq, decide_eq_false_iff_not, Bool.not_eq_true', Bool.not_eq_false', Bool.not_true, Bool.not_false]; first | assumption | omega)))) | ((with_reducible apply Step.pickF); exact rfl; exact rfl; exact rfl; exact rfl; (focus ((simp only [decide_eq_true_eq, decide_eq_false_iff_not, Bool.not_eq_true', Bool.not_eq_false', Bool.not_true, Bool.not_false]; first | assumption | omega)))) | ((with_reducible apply Step.alloc 0); exact rfl; exact ze33; exact rfl; (focus (first | (simp only [List.nil_append, List.cons_append, List.set_cons_zero, List.set_cons_succ, iv_set, bv_set, iv_rep, bv_rep]; done) | (simp only [List.nil_append, List.cons_append, List.set_cons_zero, List.set_cons_succ, iv_set, bv_set, iv_rep, bv_rep]; rfl) | rfl))) | ((with_reducible apply Step.storeA (k := 0) (n := 5)); exact rfl; exact rfl; exact rfl; exact rfl; (focus (decide +kernel)); exact rfl; (focus (kernel_rfl)); exact rfl; (focus (first | (simp only [List.nil_append, List.cons_append, List.set_cons_zero, List.set_cons_succ, iv_set, bv_set, iv_rep, bv_rep]; done) | (simp only [List.nil_append, List.cons_append, List.set_cons_zero, List.set_cons_succ, iv_set, bv_set, iv_rep, bv_rep]; rfl) | rfl)))) | (with_reducible refine AWo.nil ?_) | ((with_reducible apply AW.seq)) | ((with_reducible apply Then.n)) | ((with_reducible apply AW.regL)) | ((with_reducible apply AW.block)) | ((with_reducible apply AW.skip)) | ((with_reducible apply AW.condT); exact rfl; (focus (first | rfl | (simp only [decide_eq_true_eq, decide_eq_false_iff_not, Bool.not_eq_true', Bool.not_eq_false', Bool.not_true, Bool.not_false]; first | assumption | omega))))))
        (refine AW.retD (l := [(2, _)]) (by repeat (first | exact trivial | (refine And.intro ⟨rfl, by (exact .bool _)⟩ ?_))) ?_; (repeat (first | refine Then.r ?_ | refine InBlk.r ?_)))
        exact ⟨_, rfl, by rw [e], rfl⟩
      by_cases h4 : kh < 1
      · (repeat (first | (with_reducible refine AWo.cons ?_) | ((with_reducible refine Step.id ?_); first | ((with_reducible apply Step.gdT); exact rfl; exact rfl; (focus ((simp only [decide_eq_true_eq, decide_eq_false_iff_not, Bool.not_eq_true', Bool.not_eq_false', Bool.not_true, Bool.not_false]; first | assumption | omega)))) | ((with_reducible apply Step.gdF); exact rfl; exact rfl; (focus (first | rfl | (simp only [decide_eq_true_eq, decide_eq_false_iff_not, Bool.not_eq_true', Bool.not_eq_false', Bool.not_true, Bool.not_false]; first | assumption | omega)))) | ((with_reducible apply Step.move); exact rfl; exact rfl) | ((with_reducible apply Step.assign); exact rfl; exact rfl) | ((with_reducible apply Step.load); exact rfl; (focus (decide +kernel)); exact rfl; (focus (exact Rd.new rfl rfl))) | ((with_reducible apply Step.loadL (n := 5)); exact rfl; (focus (decide +kernel)); (focus (decide +kernel)); exact rfl; (focus (exact RdL.old _ (by assumption))); exact rfl; exact rfl) | ((with_reducible apply Step.ix (s := 5)); exact rfl; (focus (assumption)); exact rfl; (focus (decide +kernel)); exact rfl; (focus (omega))) | ((with_reducible apply Step.field0); exact rfl; (focus (decide +kernel)); exact rfl) | ((with_reducible apply Step.field (k := 1)); exact rfl; (focus (decide +kernel)); exact rfl) | ((with_reducible apply Step.lss); exact rfl; exact rfl; exact rfl) | ((with_reducible apply Step.gtr); exact rfl; exact rfl; exact rfl) | ((with_reducible apply Step.pickT); exact rfl; exact rfl; exact rfl; exact rfl; (focus (first | rfl | (simp only [decide_eq_true_eq, decide_eq_false_iff_not, Bool.not_eq_true', Bool.not_eq_false', Bool.not_true, Bool.not_false]; first | assumption | omega)))) | ((with_reducible apply Step.pickF); exact rfl; exact rfl; exact rfl; exact rfl; (focus ((simp only [decide_eq_true_eq, decide_eq_false_iff_not, Bool.not_eq_true', Bool.not_eq_false', Bool.not_true, Bool.not_false]; first | assumption | omega)))) | ((with_reducible apply Step.alloc 0); exact rfl; exact ze33; exact rfl; (focus (first | (simp only [List.nil_append, List.cons_append, List.set_cons_zero, List.set_cons_succ, iv_set, bv_set, iv_rep, bv_rep]; done) | (simp only [List.nil_append, List.cons_append, List.set_cons_zero, List.set_cons_succ, iv_set, bv_set, iv_rep, bv_rep]; rfl) | rfl))) | ((with_reducible apply Step.storeA (k := 0) (n := 5)); exact rfl; exact rfl; exact rfl; exact rfl; (focus (decide +kernel)); exact rfl; (focus (kernel_rfl)); exact rfl; (focus (first | (simp only [List.nil_append, List.cons_append, List.set_cons_zero, List.set_cons_succ, iv_set, bv_set, iv_rep, bv_rep]; done) | (simp only [List.nil_append, List.cons_append, List.set_cons_zero, List.set_cons_succ, iv_set, bv_set, iv_rep, bv_rep]; rfl) | rfl)))) | (with_reducible refine AWo.nil ?_) | ((with_reducible apply AW.seq)) | ((with_reducible apply Then.n)) | ((with_reducible apply AW.regL)) | ((with_reducible apply AW.block)) | ((with_reducible apply AW.skip)) | ((with_reducible apply AW.condT); exact rfl; (focus (first | rfl | (simp only [decide_eq_true_eq, decide_eq_false_iff_not, Bool.not_eq_true', Bool.not_eq_false', Bool.not_true, Bool.not_false]; first | assumption | omega))))))
        (refine AW.retD (l := [(2, _)]) (by repeat (first | exact trivial | (refine And.intro ⟨rfl, by (exact .bool _)⟩ ?_))) ?_; (repeat (first | refine Then.r ?_ | refine InBlk.r ?_)))
        exact ⟨_, rfl, by rw [e], rfl⟩
      by_cases h5 : 16 < kh
      · (repeat (first | (with_reducible refine AWo.cons ?_) | ((with_reducible refine Step.id ?_); first | ((with_reducible apply Step.gdT); exact rfl; exact rfl; (focus ((simp only [decide_eq_true_eq, decide_eq_false_iff_not, Bool.not_eq_true', Bool.not_eq_false', Bool.not_true, Bool.not_false]; first | assumption | omega)))) | ((with_reducible apply Step.gdF); exact rfl; exact rfl; (focus (first | rfl | (simp only [decide_eq_true_eq, decide_eq_false_iff_not, Bool.not_eq_true', Bool.not_eq_false', Bool.not_true, Bool.not_false]; first | assumption | omega)))) | ((with_reducible apply Step.move); exact rfl; exact rfl) | ((with_reducible apply Step.assign); exact rfl; exact rfl) | ((with_reducible apply Step.load); exact rfl; (focus (decide +kernel)); exact rfl; (focus (exact Rd.new rfl rfl))) | ((with_reducible apply Step.loadL (n := 5)); exact rfl; (focus (decide +kernel)); (focus (decide +kernel)); exact rfl; (focus (exact RdL.old _ (by assumption))); exact rfl; exact rfl) | ((with_reducible apply Step.ix (s := 5)); exact rfl; (focus (assumption)); exact rfl; (focus (decide +kernel)); exact rfl; (focus (omega))) | ((with_reducible apply Step.field0); exact rfl; (focus (decide +kernel)); exact rfl) | ((with_reducible apply Step.field (k := 1)); exact rfl; (focus (decide +kernel)); exact rfl) | ((with_reducible apply Step.lss); exact rfl; exact rfl; exact rfl) | ((with_reducible apply Step.gtr); exact rfl; exact rfl; exact rfl) | ((with_reducible apply Step.pickT); exact rfl; exact rfl; exact rfl; exact rfl; (focus (first | rfl | (simp only [decide_eq_true_eq, decide_eq_false_iff_not, Bool.not_eq_true', Bool.not_eq_false', Bool.not_true, Bool.not_false]; first | assumption | omega)))) | ((with_reducible apply Step.pickF); exact rfl; exact rfl; exact rfl; exact rfl; (focus ((simp only [decide_eq_true_eq, decide_eq_false_iff_not, Bool.not_eq_true', Bool.not_eq_false', Bool.not_true, Bool.not_false]; first | assumption | omega)))) | ((with_reducible apply Step.alloc 0); exact rfl; exact ze33; exact rfl; (focus (first | (simp only [List.nil_append, List.cons_append, List.set_cons_zero, List.set_cons_succ, iv_set, bv_set, iv_rep, bv_rep]; done) | (simp only [List.nil_append, List.cons_append, List.set_cons_zero, List.set_cons_succ, iv_set, bv_set, iv_rep, bv_rep]; rfl) | rfl))) | ((with_reducible apply Step.storeA (k := 0) (n := 5)); exact rfl; exact rfl; exact rfl; exact rfl; (focus (decide +kernel)); exact rfl; (focus (kernel_rfl)); exact rfl; (focus (first | (simp only [List.nil_append, List.cons_append, List.set_cons_zero, List.set_cons_succ, iv_set, bv_set, iv_rep, bv_rep]; done) | (simp only [List.nil_append, List.cons_append, List.set_cons_zero, List.set_cons_succ, iv_set, bv_set, iv_rep, bv_rep]; rfl) | rfl)))) | (with_reducible refine AWo.nil ?_) | ((with_reducible apply AW.seq)) | ((with_reducible apply Then.n)) | ((with_reducible apply AW.regL)) | ((with_reducible apply AW.block)) | ((with_reducible apply AW.skip)) | ((with_reducible apply AW.condT); exact rfl; (focus (first | rfl | (simp only [decide_eq_true_eq, decide_eq_false_iff_not, Bool.not_eq_true', Bool.not_eq_false', Bool.not_true, Bool.not_false]; first | assumption | omega))))))
        (refine AW.retD (l := [(2, _)]) (by repeat (first | exact trivial | (refine And.intro ⟨rfl, by (exact .bool _)⟩ ?_))) ?_; (repeat (first | refine Then.r ?_ | refine InBlk.r ?_)))
        exact ⟨_, rfl, by rw [e], rfl⟩
      by_cases h6 : kg < 1
      · (repeat (first | (with_reducible refine AWo.cons ?_) | ((with_reducible refine Step.id ?_); first | ((with_reducible apply Step.gdT); exact rfl; exact rfl; (focus ((simp only [decide_eq_true_eq, decide_eq_false_iff_not, Bool.not_eq_true', Bool.not_eq_false', Bool.not_true, Bool.not_false]; first | assumption | omega)))) | ((with_reducible apply Step.gdF); exact rfl; exact rfl; (focus (first | rfl | (simp only [decide_eq_true_eq, decide_eq_false_iff_not, Bool.not_eq_true', Bool.not_eq_false', Bool.not_true, Bool.not_false]; first | assumption | omega)))) | ((with_reducible apply Step.move); exact rfl; exact rfl) | ((with_reducible apply Step.assign); exact rfl; exact rfl) | ((with_reducible apply Step.load); exact rfl; (focus (decide +kernel)); exact rfl; (focus (exact Rd.new rfl rfl))) | ((with_reducible apply Step.loadL (n := 5)); exact rfl; (focus (decide +kernel)); (focus (decide +kernel)); exact rfl; (focus (exact RdL.old _ (by assumption))); exact rfl; exact rfl) | ((with_reducible apply Step.ix (s := 5)); exact rfl; (focus (assumption)); exact rfl; (focus (decide +kernel)); exact rfl; (focus (omega))) | ((with_reducible apply Step.field0); exact rfl; (focus (decide +kernel)); exact rfl) | ((with_reducible apply Step.field (k := 1)); exact rfl; (focus (decide +kernel)); exact rfl) | ((with_reducible apply Step.field (k := 2)); exact rfl; (focus (decide +kernel)); exact rfl) | ((with_reducible apply Step.lss); exact rfl; exact rfl; exact rfl) | ((with_reducible apply Step.gtr); exact rfl; exact rfl; exact rfl) | ((with_reducible apply Step.pickT); exact rfl; exact rfl; exact rfl; exact rfl; (focus (first | rfl | (simp only [decide_eq_true_eq, decide_eq_false_iff_not, Bool.not_eq_true', Bool.not_eq_false', Bool.not_true, Bool.not_false]; first | assumption | omega)))) | ((with_reducible apply Step.pickF); exact rfl; exact rfl; exact rfl; exact rfl; (focus ((simp only [decide_eq_true_eq, decide_eq_false_iff_not, Bool.not_eq_true', Bool.not_eq_false', Bool.not_true, Bool.not_false]; first | assumption | omega)))) | ((with_reducible apply Step.alloc 0); exact rfl; exact ze33; exact rfl; (focus (first | (simp only [List.nil_append, List.cons_append, List.set_cons_zero, List.set_cons_succ, iv_set, bv_set, iv_rep, bv_rep]; done) | (simp only [List.nil_append, List.cons_append, List.set_cons_zero, List.set_cons_succ, iv_set, bv_set, iv_rep, bv_rep]; rfl) | rfl))) | ((with_reducible apply Step.storeA (k := 0) (n := 5)); exact rfl; exact rfl; exact rfl; exact rfl; (focus (decide +kernel)); exact rfl; (focus (kernel_rfl)); exact rfl; (focus (first | (simp only [List.nil_append, List.cons_append, List.set_cons_zero, List.set_cons_succ, iv_set, bv_set, iv_rep, bv_rep]; done) | (simp only [List.nil_append, List.cons_append, List.set_cons_zero, List.set_cons_succ, iv_set, bv_set, iv_rep, bv_rep]; rfl) | rfl)))) | (with_reducible refine AWo.nil ?_) | ((with_reducible apply AW.seq)) | ((with_reducible apply Then.n)) | ((with_reducible apply AW.regL)) | ((with_reducible apply AW.block)) | ((with_reducible apply AW.skip)) | ((with_reducible apply AW.condT); exact rfl; (focus (first | rfl | (simp only [decide_eq_true_eq, decide_eq_false_iff_not, Bool.not_eq_true', Bool.not_eq_false', Bool.not_true, Bool.not_false]; first | assumption | omega))))))
        (refine AW.retD (l := [(2, _)]) (by repeat (first | exact trivial | (refine And.intro ⟨rfl, by (exact .bool _)⟩ ?_))) ?_; (repeat (first | refine Then.r ?_ | refine InBlk.r ?_)))
        exact ⟨_, rfl, by rw [e], rfl⟩
      by_cases h7 : 9 < kg
      · (repeat (first | (with_reducible refine AWo.cons ?_) | ((with_reducible refine Step.id ?_); first | ((with_reducible apply Step.gdT); exact rfl; exact rfl; (focus ((simp only [decide_eq_true_eq, decide_eq_false_iff_not, Bool.not_eq_true', Bool.not_eq_false', Bool.not_true, Bool.not_false]; first | assumption | omega)))) | ((with_reducible apply Step.gdF); exact rfl; exact rfl; (focus (first | rfl | (simp only [decide_eq_true_eq, decide_eq_false_iff_not, Bool.not_eq_true', Bool.not_eq_false', Bool.not_true, Bool.not_false]; first | assumption | omega)))) | ((with_reducible apply Step.move); exact rfl; exact rfl) | ((with_reducible apply Step.assign); exact rfl; exact rfl) | ((with_reducible apply Step.load); exact rfl; (focus (decide +kernel)); exact rfl; (focus (exact Rd.new rfl rfl))) | ((with_reducible apply Step.loadL (n := 5)); exact rfl; (focus (decide +kernel)); (focus (decide +kernel)); exact rfl; (focus (exact RdL.old _ (by assumption))); exact rfl; exact rfl) | ((with_reducible apply Step.ix (s := 5)); exact rfl; (focus (assumption)); exact rfl; (focus (decide +kernel)); exact rfl; (focus (omega))) | ((with_reducible apply Step.field0); exact rfl; (focus (decide +kernel)); exact rfl) | ((with_reducible apply Step.field (k := 1)); exact rfl; (focus (decide +kernel)); exact rfl) | ((with_reducible apply Step.field (k := 2)); exact rfl; (focus (decide +kernel)); exact rfl) | ((with_reducible apply Step.lss); exact rfl; exact rfl; exact rfl) | ((with_reducible apply Step.gtr); exact rfl; exact rfl; exact rfl) | ((with_reducible apply Step.pickT); exact rfl; exact rfl; exact rfl; exact rfl; (focus (first | rfl | (simp only [decide_eq_true_eq, decide_eq_false_iff_not, Bool.not_eq_true', Bool.not_eq_false', Bool.not_true, Bool.not_false]; first | assumption | omega)))) | ((with_reducible apply Step.pickF); exact rfl; exact rfl; exact rfl; exact rfl; (focus ((simp only [decide_eq_true_eq, decide_eq_false_iff_not, Bool.not_eq_true', Bool.not_eq_false', Bool.not_true, Bool.not_false]; first | assumption | omega)))) | ((with_reducible apply Step.alloc 0); exact rfl; exact ze33; exact rfl; (focus (first | (simp only [List.nil_append, List.cons_append, List.set_cons_zero, List.set_cons_succ, iv_set, bv_set, iv_rep, bv_rep]; done) | (simp only [List.nil_append, List.cons_append, List.set_cons_zero, List.set_cons_succ, iv_set, bv_set, iv_rep, bv_rep]; rfl) | rfl))) | ((with_reducible apply Step.storeA (k := 0) (n := 5)); exact rfl; exact rfl; exact rfl; exact rfl; (focus (decide +kernel)); exact rfl; (focus (kernel_rfl)); exact rfl; (focus (first | (simp only [List.nil_append, List.cons_append, List.set_cons_zero, List.set_cons_succ, iv_set, bv_set, iv_rep, bv_rep]; done) | (simp only [List.nil_append, List.cons_append, List.set_cons_zero, List.set_cons_succ, iv_set, bv_set, iv_rep, bv_rep]; rfl) | rfl)))) | (with_reducible refine AWo.nil ?_) | ((with_reducible apply AW.seq)) | ((with_reducible apply Then.n)) | ((with_reducible apply AW.regL)) | ((with_reducible apply AW.block)) | ((with_reducible apply AW.skip)) | ((with_reducible apply AW.condT); exact rfl; (focus (first | rfl | (simp only [decide_eq_true_eq, decide_eq_false_iff_not, Bool.not_eq_true', Bool.not_eq_false', Bool.not_true, Bool.not_false]; first | assumption | omega))))))
        (refine AW.retD (l := [(2, _)]) (by repeat (first | exact trivial | (refine And.intro ⟨rfl, by (exact .bool _)⟩ ?_))) ?_; (repeat (first | refine Then.r ?_ | refine InBlk.r ?_)))
        exact ⟨_, rfl, by rw [e], rfl⟩
      by_cases h8 : ko < 1
      · (repeat (first | (with_reducible refine AWo.cons ?_) | ((with_reducible refine Step.id ?_); first | ((with_reducible apply Step.gdT); exact rfl; exact rfl; (focus ((simp only [decide_eq_true_eq, decide_eq_false_iff_not, Bool.not_eq_true', Bool.not_eq_false', Bool.not_true, Bool.not_false]; first | assumption | omega)))) | ((with_reducible apply Step.gdF); exact rfl; exact rfl; (focus ((simp only [decide_eq_true_eq, decide_eq_false_iff_not, Bool.not_eq_true', Bool.not_eq_false', Bool.not_true, Bool.not_false]; first | assumption | omega)))) | ((with_reducible apply Step.move); exact rfl; exact rfl) | ((with_reducible apply Step.assign); exact rfl; exact rfl) | ((with_reducible apply Step.load); exact rfl; (focus (decide +kernel)); exact rfl; (focus (exact Rd.new rfl rfl))) | ((with_reducible apply Step.loadL (n := 5)); exact rfl; (focus (decide +kernel)); (focus (decide +kernel)); exact rfl; (focus (exact RdL.old _ (by assumption))); exact rfl; exact rfl) | ((with_reducible apply Step.ix (s := 5)); exact rfl; (focus (assumption)); exact rfl; (focus (decide +kernel)); exact rfl; (focus (omega))) | ((with_reducible apply Step.field0); exact rfl; (focus (decide +kernel)); exact rfl) | ((with_reducible apply Step.field (k := 1)); exact rfl; (focus (decide +kernel)); exact rfl) | ((with_reducible apply Step.field (k := 2)); exact rfl; (focus (decide +kernel)); exact rfl) | ((with_reducible apply Step.field (k := 3)); exact rfl; (focus (decide +kernel)); exact rfl) | ((with_reducible apply Step.lss); exact rfl; exact rfl; exact rfl) | ((with_reducible apply Step.gtr); exact rfl; exact rfl; exact rfl) | ((with_reducible apply Step.pickT); exact rfl; exact rfl; exact rfl; exact rfl; (focus ((simp only [decide_eq_true_eq, decide_eq_false_iff_not, Bool.not_eq_true', Bool.not_eq_false', Bool.not_true, Bool.not_false]; first | assumption | omega)))) | ((with_reducible apply Step.pickF); exact rfl; exact rfl; exact rfl; exact rfl; (focus ((simp only [decide_eq_true_eq, decide_eq_false_iff_not, Bool.not_eq_true', Bool.not_eq_false', Bool.not_true, Bool.not_false]; first | assumption | omega)))) | ((with_reducible apply Step.alloc 0); exact rfl; exact ze33; exact rfl; (focus (first | (simp only [List.nil_append, List.cons_append, List.set_cons_zero, List.set_cons_succ, iv_set, bv_set, iv_rep, bv_rep]; done) | (simp only [List.nil_append, List.cons_append, List.set_cons_zero, List.set_cons_succ, iv_set, bv_set, iv_rep, bv_rep]; rfl) | rfl))) | ((with_reducible apply Step.storeA (k := 0) (n := 5)); exact rfl; exact rfl; exact rfl; exact rfl; (focus (decide +kernel)); exact rfl; (focus (kernel_rfl)); exact rfl; (focus (first | (simp only [List.nil_append, List.cons_append, List.set_cons_zero, List.set_cons_succ, iv_set, bv_set, iv_rep, bv_rep]; done) | (simp only [List.nil_append, List.cons_append, List.set_cons_zero, List.set_cons_succ, iv_set, bv_set, iv_rep, bv_rep]; rfl) | rfl)))) | (with_reducible refine AWo.nil ?_) | ((with_reducible apply AW.seq)) | ((with_reducible apply Then.n)) | ((with_reducible apply AW.regL)) | ((with_reducible apply AW.block)) | ((with_reducible apply AW.skip)) | ((with_reducible apply AW.condT); exact rfl; (focus (first | rfl | (simp only [decide_eq_true_eq, decide_eq_false_iff_not, Bool.not_eq_true', Bool.not_eq_false', Bool.not_true, Bool.not_false]; first | assumption | omega))))))
        (refine AW.retD (l := [(2, _)]) (by repeat (first | exact trivial | (refine And.intro ⟨rfl, by (exact .bool _)⟩ ?_))) ?_; (repeat (first | refine Then.r ?_ | refine InBlk.r ?_)))
        exact ⟨_, rfl, by rw [e], rfl⟩
      have h9 : 1000000 < ko := by omega
      (repeat (first | (with_reducible refine AWo.cons ?_) | ((with_reducible refine Step.id ?_); first | ((with_reducible apply Step.gdT); exact rfl; exact rfl; (focus ((simp only [decide_eq_true_eq, decide_eq_false_iff_not, Bool.not_eq_true', Bool.not_eq_false', Bool.not_true, Bool.not_false]; first | assumption | omega)))) | ((with_reducible apply Step.move); exact rfl; exact rfl) | ((with_reducible apply Step.assign); exact rfl; exact rfl) | ((with_reducible apply Step.load); exact rfl; (focus (decide +kernel)); exact rfl; (focus (exact Rd.new rfl rfl))) | ((with_reducible apply Step.loadL (n := 5)); exact rfl; (focus (decide +kernel)); (focus (decide +kernel)); exact rfl; (focus (exact RdL.old _ (by assumption))); exact rfl; exact rfl) | ((with_reducible apply Step.ix (s := 5)); exact rfl; (focus (assumption)); exact rfl; (focus (decide +kernel)); exact rfl; (focus (omega))) | ((with_reducible apply Step.field0); exact rfl; (focus (decide +kernel)); exact rfl) | ((with_reducible apply Step.field (k := 1)); exact rfl; (focus (decide +kernel)); exact rfl) | ((with_reducible apply Step.field (k := 2)); exact rfl; (focus (decide +kernel)); exact rfl) | ((with_reducible apply Step.field (k := 3)); exact rfl; (focus (decide +kernel)); exact rfl) | ((with_reducible apply Step.lss); exact rfl; exact rfl; exact rfl) | ((with_reducible apply Step.gtr); exact rfl; exact rfl; exact rfl) | ((with_reducible apply Step.pickF); exact rfl; exact rfl; exact rfl; exact rfl; (focus ((simp only [decide_eq_true_eq, decide_eq_false_iff_not, Bool.not_eq_true', Bool.not_eq_false', Bool.not_true, Bool.not_false]; first | assumption | omega)))) | ((with_reducible apply Step.alloc 0); exact rfl; exact ze33; exact rfl; (focus (first | (simp only [List.nil_append, List.cons_append, List.set_cons_zero, List.set_cons_succ, iv_set, bv_set, iv_rep, bv_rep]; done) | (simp only [List.nil_append, List.cons_append, List.set_cons_zero, List.set_cons_succ, iv_set, bv_set, iv_rep, bv_rep]; rfl) | rfl))) | ((with_reducible apply Step.storeA (k := 0) (n := 5)); exact rfl; exact rfl; exact rfl; exact rfl; (focus (decide +kernel)); exact rfl; (focus (kernel_rfl)); exact rfl; (focus (first | (simp only [List.nil_append, List.cons_append, List.set_cons_zero, List.set_cons_succ, iv_set, bv_set, iv_rep, bv_rep]; done) | (simp only [List.nil_append, List.cons_append, List.set_cons_zero, List.set_cons_succ, iv_set, bv_set, iv_rep, bv_rep]; rfl) | rfl)))) | (with_reducible refine AWo.nil ?_) | ((with_reducible apply AW.seq)) | ((with_reducible apply Then.n)) | ((with_reducible apply AW.regL)) | ((with_reducible apply AW.block)) | ((with_reducible apply AW.skip)) | ((with_reducible apply AW.condT); exact rfl; (focus ((simp only [decide_eq_true_eq, decide_eq_false_iff_not, Bool.not_eq_true', Bool.not_eq_false', Bool.not_true, Bool.not_false]; first | assumption | omega))))))
      (refine AW.retD (l := [(2, _)]) (by repeat (first | exact trivial | (refine And.intro ⟨rfl, by (exact .bool _)⟩ ?_))) ?_; (repeat (first | refine Then.r ?_ | refine InBlk.r ?_)))
      exact ⟨_, rfl, by rw [e], rfl⟩
    | true =>
      have hkk := kdB_in hkd
      have hd' : ∀ j, j < i + 1 → kdB (K.getD j default) = true := fun j hj => by
        rcases Nat.lt_succ_iff_lt_or_eq.1 hj with h | rfl
        · exact hd j h
        · exact hkd
      generalize K.getD i default = k at rk hkk
      obtain ⟨kw, kh, kg, ko, kt⟩ := k
      simp only at hkk
      simp only [Kd.cells] at rk
      (repeat (first | (with_reducible refine AWo.cons ?_) | ((with_reducible refine Step.id ?_); first | ((with_reducible apply Step.gdT); exact rfl; exact rfl; (focus ((simp only [decide_eq_true_eq, decide_eq_false_iff_not, Bool.not_eq_true', Bool.not_eq_false', Bool.not_true, Bool.not_false]; first | assumption | omega)))) | ((with_reducible apply Step.move); exact rfl; exact rfl) | ((with_reducible apply Step.load); exact rfl; (focus (decide +kernel)); exact rfl; (focus (exact Rd.new rfl rfl))) | ((with_reducible apply Step.loadL (n := 5)); exact rfl; (focus (decide +kernel)); (focus (decide +kernel)); exact rfl; (focus (exact RdL.old _ (by assumption))); exact rfl; exact rfl) | ((with_reducible apply Step.ix (s := 5)); exact rfl; (focus (assumption)); exact rfl; (focus (decide +kernel)); exact rfl; (focus (omega))) | ((with_reducible apply Step.field0); exact rfl; (focus (decide +kernel)); exact rfl) | ((with_reducible apply Step.field (k := 1)); exact rfl; (focus (decide +kernel)); exact rfl) | ((with_reducible apply Step.field (k := 2)); exact rfl; (focus (decide +kernel)); exact rfl) | ((with_reducible apply Step.field (k := 3)); exact rfl; (focus (decide +kernel)); exact rfl) | ((with_reducible apply Step.add); exact rfl; exact rfl; (focus (omega)); exact rfl) | ((with_reducible apply Step.lss); exact rfl; exact rfl; exact rfl) | ((with_reducible apply Step.gtr); exact rfl; exact rfl; exact rfl) | ((with_reducible apply Step.pickF); exact rfl; exact rfl; exact rfl; exact rfl; (focus ((simp only [decide_eq_true_eq, decide_eq_false_iff_not, Bool.not_eq_true', Bool.not_eq_false', Bool.not_true, Bool.not_false]; first | assumption | omega)))) | ((with_reducible apply Step.alloc 0); exact rfl; exact ze33; exact rfl; (focus (first | (simp only [List.nil_append, List.cons_append, List.set_cons_zero, List.set_cons_succ, iv_set, bv_set, iv_rep, bv_rep]; done) | (simp only [List.nil_append, List.cons_append, List.set_cons_zero, List.set_cons_succ, iv_set, bv_set, iv_rep, bv_rep]; rfl) | rfl))) | ((with_reducible apply Step.storeA (k := 0) (n := 5)); exact rfl; exact rfl; exact rfl; exact rfl; (focus (decide +kernel)); exact rfl; (focus (kernel_rfl)); exact rfl; (focus (first | (simp only [List.nil_append, List.cons_append, List.set_cons_zero, List.set_cons_succ, iv_set, bv_set, iv_rep, bv_rep]; done) | (simp only [List.nil_append, List.cons_append, List.set_cons_zero, List.set_cons_succ, iv_set, bv_set, iv_rep, bv_rep]; rfl) | rfl)))) | (with_reducible refine AWo.nil ?_) | ((with_reducible apply AW.seq)) | ((with_reducible apply Then.n)) | ((with_reducible apply AW.regL)) | ((with_reducible apply AW.block)) | ((with_reducible apply InBlk.n)) | ((with_reducible apply AW.skip)) | ((with_reducible apply AW.condT); exact rfl; (focus ((simp only [decide_eq_true_eq, decide_eq_false_iff_not, Bool.not_eq_true', Bool.not_eq_false', Bool.not_true, Bool.not_false]; first | assumption | omega)))) | ((with_reducible apply AW.condF); exact rfl; (focus ((simp only [decide_eq_true_eq, decide_eq_false_iff_not, Bool.not_eq_true', Bool.not_eq_false', Bool.not_true, Bool.not_false]; first | assumption | omega))))))
      exact ⟨_, _, [], by omega, (Back.trim rfl rfl (by repeat (exact CellsOk.nil)) (by repeat (first | exact trivial | (refine And.intro ⟨rfl, by (first | exact Low.rid (by assumption) (by simp) | exact .int _ _)⟩ ?_)))), i + 1, rfl, by omega, rfl, hd', rfl⟩
  · obtain rfl : i = K.length := by omega
    (repeat (first | (with_reducible refine AWo.cons ?_) | ((with_reducible refine Step.id ?_); first | ((with_reducible apply Step.assign); exact rfl; exact rfl) | ((with_reducible apply Step.lss); exact rfl; exact rfl; exact rfl)) | (with_reducible refine AWo.nil ?_) | ((with_reducible apply AW.seq)) | ((with_reducible apply Then.n)) | ((with_reducible apply AW.regL)) | ((with_reducible apply AW.exit)) | ((with_reducible apply InBlk.hit)) | ((with_reducible apply Then.e)) | ((with_reducible apply AW.condF); exact rfl; (focus ((simp only [decide_eq_true_eq, decide_eq_false_iff_not, Bool.not_eq_true', Bool.not_eq_false', Bool.not_true, Bool.not_false]; first | assumption | omega))))))
    (refine AW.retD (l := [(2, _)]) (by repeat (first | exact trivial | (refine And.intro ⟨rfl, by (exact .bool _)⟩ ?_))) ?_; (repeat (first | refine Then.r ?_ | refine InBlk.r ?_)))
    exact ⟨_, rfl, by rw [kinds_all (by omega) hd], rfl⟩
set_option maxRecDepth 100000 in
theorem RGood_ok {m : AM} {sv kv : Value} {B : Brd} {K : List Kd} (hs : Strs m sv B) (hk : Kds m kv K) : ACall Tryd.prog 8 #[sv, kv] m (Ret (.bool (goodB B K)) m) := by
  have h1 := fun T => RBoard_ok (hs.old T)
  have h2 := fun T => RKinds_ok (hk.old T)
  refine ACall.start Tryd.func8 rfl rfl ?_
  cases hb : boardB B with
  | false =>
    rw [hb] at h1
    (repeat (first | (with_reducible refine AWo.cons ?_) | ((with_reducible refine Step.id ?_); first | ((with_reducible apply Step.gdF); exact rfl; exact rfl; (focus (rfl))) | ((with_reducible apply Step.move); exact rfl; exact rfl) | ((with_reducible apply Step.assign); exact rfl; exact rfl) | ((with_reducible apply Step.pickF); exact rfl; exact rfl; exact rfl; exact rfl; (focus (rfl))) | ((with_reducible apply Step.callR fit); exact rfl; exact Tryd.func32; exact rfl; exact rfl; exact (h1 _))) | (with_reducible refine AWo.nil ?_) | ((with_reducible apply AW.seq)) | ((with_reducible apply Then.n)) | ((with_reducible apply AW.regL))))
    (refine AW.retD (l := [(4, _)]) (by repeat (first | exact trivial | (refine And.intro ⟨rfl, by (exact .bool _)⟩ ?_))) ?_; (repeat (first | refine Then.r ?_ | refine InBlk.r ?_)))
    exact ⟨_, rfl, by simp [goodB, hb], rfl⟩
  | true =>
    rw [hb] at h1
    (repeat (first | (with_reducible refine AWo.cons ?_) | ((with_reducible refine Step.id ?_); first | ((with_reducible apply Step.gdT); exact rfl; exact rfl; (focus (rfl))) | ((with_reducible apply Step.move); exact rfl; exact rfl) | ((with_reducible apply Step.assign); exact rfl; exact rfl) | ((with_reducible apply Step.pickT); exact rfl; exact rfl; exact rfl; exact rfl; (focus (rfl))) | ((with_reducible apply Step.callR fit); exact rfl; exact Tryd.func32; exact rfl; exact rfl; exact (h1 _)) | ((with_reducible apply Step.callR fit); exact rfl; exact Tryd.func33; exact rfl; exact rfl; exact (h2 _))) | (with_reducible refine AWo.nil ?_) | ((with_reducible apply AW.seq)) | ((with_reducible apply Then.n)) | ((with_reducible apply AW.regL))))
    (refine AW.retD (l := [(4, _)]) (by repeat (first | exact trivial | (refine And.intro ⟨rfl, by (exact .bool _)⟩ ?_))) ?_; (repeat (first | refine Then.r ?_ | refine InBlk.r ?_)))
    exact ⟨_, rfl, by simp [goodB, hb], rfl⟩
end Go.Proofs.YtedbjmgchfgabaaDoor.Abs
namespace Go.Proofs.YtedbjmgchfgabaaDoor.Abs
set_option linter.unusedSimpArgs false
set_option linter.unusedVariables false
open Go.RowKit
open Go.Proofs.YtedbjmgchfgabaaDoor.Sim
open Go.Proofs
set_option maxHeartbeats 4000000 in
set_option maxRecDepth 100000 in
theorem newBoard_any {m : AM} {sv kv : Value} {B : Brd} {K : List Kd} (hs : Strs m sv B) (hk : Kds m kv K) :
    ACall Tryd.prog 34 #[sv, kv] m (More (fun m' v => (goodB B K = false ∧ v = .pointer none) ∨ (goodB B K = true ∧ ∃ p, m.length ≤ p ∧ v = .pointer (some ⟨p, 0, none⟩) ∧ BoardAt m' p B K)) m) := by
  have hV := fun T => Valid_ok (hs.old T)
  have hs' := hs
  have hk' := hk
  obtain ⟨A, O, sl, la, rd⟩ := hs'
  obtain ⟨A2, O2, sl2, la2, rd2⟩ := hk'
  obtain ⟨q1, c1, rfl⟩ := sl.shape
  obtain ⟨q2, c2, rfl⟩ := sl2.shape
  refine ACall.start Tryd.func34 rfl rfl ?_
  cases hv : skinB B with
  | false =>
    rw [hv] at hV
    have e : goodB B K = false := by simp [goodB, boardB, hv]
    (repeat (first | (with_reducible refine AWo.cons ?_) | ((with_reducible refine Step.id ?_); first | ((with_reducible apply Step.gdF); exact rfl; exact rfl; (focus (rfl))) | ((with_reducible apply Step.move); exact rfl; exact rfl) | ((with_reducible apply Step.assign); exact rfl; exact rfl) | ((with_reducible apply Step.not); exact rfl; exact rfl) | ((with_reducible apply Step.pickT); exact rfl; exact rfl; exact rfl; exact rfl; (focus (rfl))) | ((with_reducible apply Step.callR fit); exact rfl; exact Tryd.func28; exact rfl; exact rfl; exact (hV _))) | (with_reducible refine AWo.nil ?_) | ((with_reducible apply AW.seq)) | ((with_reducible apply Then.n)) | ((with_reducible apply AW.regL)) | ((with_reducible apply AW.condT); exact rfl; (focus (rfl)))))
    (refine AW.retD (l := [(4, _)]) (by repeat (first | exact trivial | (refine And.intro ⟨rfl, by (exact Ren.of_g0 rfl)⟩ ?_))) ?_; (repeat (first | refine Then.r ?_ | refine InBlk.r ?_)))
    exact ⟨_, rfl, [], (List.append_nil m).symm, .inl ⟨e, rfl⟩⟩
  | true =>
  rw [hv] at hV
  have hvv := hv
  simp only [skinB, Bool.and_eq_true, decide_eq_true_eq] at hvv
  have r0 := rd 0 (by omega)
  have hS := fun m => sides_ok (m := m) ((rowOf B 0).size : Nat) (B.length : Nat)
  by_cases hb : B.length ≤ 16 ∧ (rowOf B 0).size ≤ 16
  case neg =>
    have e : goodB B K = false := by simp [goodB, boardB]; omega
    have e2 : sidesB ((rowOf B 0).size : Nat) (B.length : Nat) = false := by simp [sidesB]; omega
    rw [e2] at hS
    (repeat (first | (with_reducible refine AWo.cons ?_) | ((with_reducible refine Step.id ?_); first | ((with_reducible apply Step.gdT); exact rfl; exact rfl; (focus (rfl))) | ((with_reducible apply Step.gdF); exact rfl; exact rfl; (focus (rfl))) | ((with_reducible apply Step.move); exact rfl; exact rfl) | ((with_reducible apply Step.assign); exact rfl; exact rfl) | ((with_reducible apply Step.load); exact rfl; (focus (decide +kernel)); exact rfl; (focus (exact Rd.old _ (by assumption)))) | ((with_reducible apply Step.ix1 (k := 0)); exact rfl; (focus (assumption)); exact rfl; (focus (decide +kernel)); exact rfl; (focus (omega))) | ((with_reducible apply Step.lenS); exact rfl; exact un9; exact rfl) | ((with_reducible apply Step.len); exact rfl; (focus (assumption)); (focus (decide +kernel)); exact rfl) | ((with_reducible apply Step.not); exact rfl; exact rfl) | ((with_reducible apply Step.pickT); exact rfl; exact rfl; exact rfl; exact rfl; (focus (rfl))) | ((with_reducible apply Step.pickF); exact rfl; exact rfl; exact rfl; exact rfl; (focus (rfl))) | ((with_reducible apply Step.callR fit); exact rfl; exact Tryd.func28; exact rfl; exact rfl; exact (hV _)) | ((with_reducible apply Step.callR fit); exact rfl; exact Tryd.func62; exact rfl; exact rfl; exact (hS _))) | (with_reducible refine AWo.nil ?_) | ((with_reducible apply AW.seq)) | ((with_reducible apply Then.n)) | ((with_reducible apply AW.regL)) | ((with_reducible apply AW.condT); exact rfl; (focus (rfl)))))
    (refine AW.retD (l := [(4, _)]) (by repeat (first | exact trivial | (refine And.intro ⟨rfl, by (exact Ren.of_g0 rfl)⟩ ?_))) ?_; (repeat (first | refine Then.r ?_ | refine InBlk.r ?_)))
    exact ⟨_, rfl, [], (List.append_nil m).symm, .inl ⟨e, rfl⟩⟩
  have e2 : sidesB ((rowOf B 0).size : Nat) (B.length : Nat) = true := by simp [sidesB]; omega
  rw [e2] at hS
  by_cases hl : 12 < K.length
  · have e : goodB B K = false := by simp [goodB, kindsB]; omega
    (repeat (first | (with_reducible refine AWo.cons ?_) | ((with_reducible refine Step.id ?_); first | ((with_reducible apply Step.gdT); exact rfl; exact rfl; (focus (rfl))) | ((with_reducible apply Step.move); exact rfl; exact rfl) | ((with_reducible apply Step.assign); exact rfl; exact rfl) | ((with_reducible apply Step.load); exact rfl; (focus (decide +kernel)); exact rfl; (focus (exact Rd.old _ (by assumption)))) | ((with_reducible apply Step.ix1 (k := 0)); exact rfl; (focus (assumption)); exact rfl; (focus (decide +kernel)); exact rfl; (focus (omega))) | ((with_reducible apply Step.lenS); exact rfl; exact un9; exact rfl) | ((with_reducible apply Step.gtr); exact rfl; exact rfl; exact rfl) | ((with_reducible apply Step.len); exact rfl; (focus (assumption)); (focus (decide +kernel)); exact rfl) | ((with_reducible apply Step.not); exact rfl; exact rfl) | ((with_reducible apply Step.pickF); exact rfl; exact rfl; exact rfl; exact rfl; (focus (rfl))) | ((with_reducible apply Step.callR fit); exact rfl; exact Tryd.func28; exact rfl; exact rfl; exact (hV _)) | ((with_reducible apply Step.callR fit); exact rfl; exact Tryd.func62; exact rfl; exact rfl; exact (hS _))) | (with_reducible refine AWo.nil ?_) | ((with_reducible apply AW.seq)) | ((with_reducible apply Then.n)) | ((with_reducible apply AW.regL)) | ((with_reducible apply AW.condT); exact rfl; (focus ((simp only [decide_eq_true_eq, decide_eq_false_iff_not, Bool.not_eq_true', Bool.not_eq_false', Bool.not_true, Bool.not_false]; first | assumption | omega))))))
    (refine AW.retD (l := [(4, _)]) (by repeat (first | exact trivial | (refine And.intro ⟨rfl, by (exact Ren.of_g0 rfl)⟩ ?_))) ?_; (repeat (first | refine Then.r ?_ | refine InBlk.r ?_)))
    exact ⟨_, rfl, [], (List.append_nil m).symm, .inl ⟨e, rfl⟩⟩
  (repeat (first | (with_reducible refine AWo.cons ?_) | ((with_reducible refine Step.id ?_); first | ((with_reducible apply Step.gdT); exact rfl; exact rfl; (focus (rfl))) | ((with_reducible apply Step.move); exact rfl; exact rfl) | ((with_reducible apply Step.assign); exact rfl; exact rfl) | ((with_reducible apply Step.load); exact rfl; (focus (decide +kernel)); exact rfl; (focus (exact Rd.old _ (by assumption)))) | ((with_reducible apply Step.ix1 (k := 0)); exact rfl; (focus (assumption)); exact rfl; (focus (decide +kernel)); exact rfl; (focus (omega))) | ((with_reducible apply Step.lenS); exact rfl; exact un9; exact rfl) | ((with_reducible apply Step.gtr); exact rfl; exact rfl; exact rfl) | ((with_reducible apply Step.len); exact rfl; (focus (assumption)); (focus (decide +kernel)); exact rfl) | ((with_reducible apply Step.not); exact rfl; exact rfl) | ((with_reducible apply Step.pickF); exact rfl; exact rfl; exact rfl; exact rfl; (focus (rfl))) | ((with_reducible apply Step.callR fit); exact rfl; exact Tryd.func28; exact rfl; exact rfl; exact (hV _)) | ((with_reducible apply Step.callR fit); exact rfl; exact Tryd.func62; exact rfl; exact rfl; exact (hS _))) | (with_reducible refine AWo.nil ?_) | ((with_reducible apply AW.seq)) | ((with_reducible apply Then.n)) | ((with_reducible apply AW.regL)) | ((with_reducible apply AW.skip)) | ((with_reducible apply AW.condF); exact rfl; (focus ((simp only [decide_eq_true_eq, decide_eq_false_iff_not, Bool.not_eq_true', Bool.not_eq_false', Bool.not_true, Bool.not_false]; first | assumption | omega))))))
  rw [List.append_nil]
  ((with_reducible apply Step.mkMap); exact rfl)
  (repeat (first | (with_reducible refine AWo.cons ?_) | ((with_reducible refine Step.id ?_); first | ((with_reducible apply Step.move); exact rfl; exact rfl) | ((with_reducible apply Step.assign); exact rfl; exact rfl) | ((with_reducible apply Step.len); exact rfl; (focus (assumption)); (focus (decide +kernel)); exact rfl) | ((with_reducible apply Step.box 1); exact rfl; exact rfl; (focus (kernel_rfl)); exact rfl; (focus (first | (simp only [List.nil_append, List.cons_append, List.set_cons_zero, List.set_cons_succ, iv_set, bv_set, iv_rep, bv_rep]; done) | (simp only [List.nil_append, List.cons_append, List.set_cons_zero, List.set_cons_succ, iv_set, bv_set, iv_rep, bv_rep]; rfl) | rfl))) | ((with_reducible apply Step.build); exact rfl; exact bl105; exact rfl)) | (with_reducible refine AWo.nil ?_) | ((with_reducible apply AW.seq)) | ((with_reducible apply Then.n)) | ((with_reducible apply AW.regL)) | ((with_reducible apply AW.block))))
  have hP : BrdP m (m ++ [some { cells := [], kind := .map }, some { cells := [.slice q1 B.length c1, .slice q2 K.length c2, .int .i64 ((rowOf B 0).size : Nat), .int .i64 (B.length : Nat), .map (some m.length)] }]) (m.length + 1) m.length (.slice q1 B.length c1) (.slice q2 K.length c2) B K 0 :=
    ⟨⟨_, rfl⟩, Nat.le_refl _, by rw [get_app]; rfl, [], (by rw [List.getElem?_append_right (Nat.le_refl _), Nat.sub_self]; rfl), fun g v hv => (by cases hv), fun j hj => (by omega)⟩
  have hpq : m.length + 1 ≠ m.length := by omega
  have hpm : m.length ≤ m.length + 1 := by omega
  generalize m.length + 1 = p at hP hpq hpm ⊢
  generalize hqm : m.length = q at hP hpq
  clear r0
  refine AW.loopW (fun n t M' => ∃ (i : Nat), n = K.length - i ∧ i ≤ K.length ∧ (∀ j, j < i → kdB (K.getD j default) = true) ∧ BrdP m M' p q (.slice q1 B.length c1) (.slice q2 K.length c2) B K i ∧
      t = fr [(0, .slice q1 B.length c1), (5, .pointer (some ⟨p, 0, none⟩)), (37, .slice q2 K.length c2), (38, .int .i64 (K.length : Nat)), (39, .int .i64 (i : Nat))])
    ⟨_, _, (by repeat (first | exact trivial | (refine And.intro rfl ?_))), 0, rfl, Nat.zero_le _, fun j hj => by omega, by exact hP, rfl⟩ ?_
  clear hP
  rintro n t M' ⟨i, rfl, hi, hd, hP, rfl⟩
  obtain ⟨N, hN⟩ := hP.low
  rcases Nat.lt_or_ge i K.length with hlt | hge
  · obtain ⟨l, hq, hl1, hl2⟩ := hP.qb
    have hkm : Kds M' (.slice q2 K.length c2) K := by rw [hN]; exact hk.old N
    have hsm : Strs M' (.slice q1 B.length c1) B := by rw [hN]; exact hs.old N
    have rk := (rd2 i hlt).old N
    rw [← hN] at rk
    refine AW.rebase ?_
    cases hkd : kdB (K.getD i default) with
    | false =>
      have e : goodB B K = false := by simp [goodB, kinds_no hlt hkd]
      generalize K.getD i default = k at rk hkd
      obtain ⟨kw, kh, kg, ko, kt⟩ := k
      simp only [kdB, decide_eq_false_iff_not] at hkd
      simp only [Kd.cells] at rk
      have hS := fun m => sides_ok (m := m) kw kh
      by_cases h1 : 1 ≤ kw ∧ 1 ≤ kh ∧ kw ≤ 16 ∧ kh ≤ 16
      · have e3 : sidesB kw kh = true := decide_eq_true h1
        rw [e3] at hS
        by_cases h2 : kg < 1
        · (repeat (first | (with_reducible refine AWo.cons ?_) | ((with_reducible refine Step.id ?_); first | ((with_reducible apply Step.gdT); exact rfl; exact rfl; (focus (rfl))) | ((with_reducible apply Step.gdF); exact rfl; exact rfl; (focus (first | rfl | (simp only [decide_eq_true_eq, decide_eq_false_iff_not, Bool.not_eq_true', Bool.not_eq_false', Bool.not_true, Bool.not_false]; first | assumption | omega)))) | ((with_reducible apply Step.move); exact rfl; exact rfl) | ((with_reducible apply Step.assign); exact rfl; exact rfl) | ((with_reducible apply Step.load); exact rfl; (focus (decide +kernel)); exact rfl; (focus (exact Rd.new rfl rfl))) | ((with_reducible apply Step.loadL (n := 5)); exact rfl; (focus (decide +kernel)); (focus (decide +kernel)); exact rfl; (focus (exact RdL.old _ (by assumption))); exact rfl; exact rfl) | ((with_reducible apply Step.ix (s := 5)); exact rfl; (focus (assumption)); exact rfl; (focus (decide +kernel)); exact rfl; (focus (omega))) | ((with_reducible apply Step.field0); exact rfl; (focus (decide +kernel)); exact rfl) | ((with_reducible apply Step.field (k := 1)); exact rfl; (focus (decide +kernel)); exact rfl) | ((with_reducible apply Step.field (k := 2)); exact rfl; (focus (decide +kernel)); exact rfl) | ((with_reducible apply Step.lss); exact rfl; exact rfl; exact rfl) | ((with_reducible apply Step.not); exact rfl; exact rfl) | ((with_reducible apply Step.pickT); exact rfl; exact rfl; exact rfl; exact rfl; (focus (first | rfl | (simp only [decide_eq_true_eq, decide_eq_false_iff_not, Bool.not_eq_true', Bool.not_eq_false', Bool.not_true, Bool.not_false]; first | assumption | omega)))) | ((with_reducible apply Step.pickF); exact rfl; exact rfl; exact rfl; exact rfl; (focus (rfl))) | ((with_reducible apply Step.callR fit); exact rfl; exact Tryd.func62; exact rfl; exact rfl; exact (hS _)) | ((with_reducible apply Step.alloc 0); exact rfl; exact ze99; exact rfl; (focus (first | (simp only [List.nil_append, List.cons_append, List.set_cons_zero, List.set_cons_succ, iv_set, bv_set, iv_rep, bv_rep]; done) | (simp only [List.nil_append, List.cons_append, List.set_cons_zero, List.set_cons_succ, iv_set, bv_set, iv_rep, bv_rep]; rfl) | rfl))) | ((with_reducible apply Step.storeA (k := 0) (n := 5)); exact rfl; exact rfl; exact rfl; exact rfl; (focus (decide +kernel)); exact rfl; (focus (kernel_rfl)); exact rfl; (focus (first | (simp only [List.nil_append, List.cons_append, List.set_cons_zero, List.set_cons_succ, iv_set, bv_set, iv_rep, bv_rep]; done) | (simp only [List.nil_append, List.cons_append, List.set_cons_zero, List.set_cons_succ, iv_set, bv_set, iv_rep, bv_rep]; rfl) | rfl)))) | (with_reducible refine AWo.nil ?_) | ((with_reducible apply AW.seq)) | ((with_reducible apply Then.n)) | ((with_reducible apply AW.regL)) | ((with_reducible apply AW.block)) | ((with_reducible apply AW.skip)) | ((with_reducible apply AW.condT); exact rfl; (focus (first | rfl | (simp only [decide_eq_true_eq, decide_eq_false_iff_not, Bool.not_eq_true', Bool.not_eq_false', Bool.not_true, Bool.not_false]; first | assumption | omega))))))
          (refine AW.ret ?_; (repeat (first | refine Then.r ?_ | refine InBlk.r ?_)))
          exact ⟨_, rfl, _, by rw [hN, List.append_assoc], .inl ⟨e, rfl⟩⟩
        by_cases h3 : 9 < kg
        · (repeat (first | (with_reducible refine AWo.cons ?_) | ((with_reducible refine Step.id ?_); first | ((with_reducible apply Step.gdT); exact rfl; exact rfl; (focus (first | rfl | (simp only [decide_eq_true_eq, decide_eq_false_iff_not, Bool.not_eq_true', Bool.not_eq_false', Bool.not_true, Bool.not_false]; first | assumption | omega)))) | ((with_reducible apply Step.gdF); exact rfl; exact rfl; (focus (first | rfl | (simp only [decide_eq_true_eq, decide_eq_false_iff_not, Bool.not_eq_true', Bool.not_eq_false', Bool.not_true, Bool.not_false]; first | assumption | omega)))) | ((with_reducible apply Step.move); exact rfl; exact rfl) | ((with_reducible apply Step.assign); exact rfl; exact rfl) | ((with_reducible apply Step.load); exact rfl; (focus (decide +kernel)); exact rfl; (focus (exact Rd.new rfl rfl))) | ((with_reducible apply Step.loadL (n := 5)); exact rfl; (focus (decide +kernel)); (focus (decide +kernel)); exact rfl; (focus (exact RdL.old _ (by assumption))); exact rfl; exact rfl) | ((with_reducible apply Step.ix (s := 5)); exact rfl; (focus (assumption)); exact rfl; (focus (decide +kernel)); exact rfl; (focus (omega))) | ((with_reducible apply Step.field0); exact rfl; (focus (decide +kernel)); exact rfl) | ((with_reducible apply Step.field (k := 1)); exact rfl; (focus (decide +kernel)); exact rfl) | ((with_reducible apply Step.field (k := 2)); exact rfl; (focus (decide +kernel)); exact rfl) | ((with_reducible apply Step.lss); exact rfl; exact rfl; exact rfl) | ((with_reducible apply Step.gtr); exact rfl; exact rfl; exact rfl) | ((with_reducible apply Step.not); exact rfl; exact rfl) | ((with_reducible apply Step.pickT); exact rfl; exact rfl; exact rfl; exact rfl; (focus (first | rfl | (simp only [decide_eq_true_eq, decide_eq_false_iff_not, Bool.not_eq_true', Bool.not_eq_false', Bool.not_true, Bool.not_false]; first | assumption | omega)))) | ((with_reducible apply Step.pickF); exact rfl; exact rfl; exact rfl; exact rfl; (focus (first | rfl | (simp only [decide_eq_true_eq, decide_eq_false_iff_not, Bool.not_eq_true', Bool.not_eq_false', Bool.not_true, Bool.not_false]; first | assumption | omega)))) | ((with_reducible apply Step.callR fit); exact rfl; exact Tryd.func62; exact rfl; exact rfl; exact (hS _)) | ((with_reducible apply Step.alloc 0); exact rfl; exact ze99; exact rfl; (focus (first | (simp only [List.nil_append, List.cons_append, List.set_cons_zero, List.set_cons_succ, iv_set, bv_set, iv_rep, bv_rep]; done) | (simp only [List.nil_append, List.cons_append, List.set_cons_zero, List.set_cons_succ, iv_set, bv_set, iv_rep, bv_rep]; rfl) | rfl))) | ((with_reducible apply Step.storeA (k := 0) (n := 5)); exact rfl; exact rfl; exact rfl; exact rfl; (focus (decide +kernel)); exact rfl; (focus (kernel_rfl)); exact rfl; (focus (first | (simp only [List.nil_append, List.cons_append, List.set_cons_zero, List.set_cons_succ, iv_set, bv_set, iv_rep, bv_rep]; done) | (simp only [List.nil_append, List.cons_append, List.set_cons_zero, List.set_cons_succ, iv_set, bv_set, iv_rep, bv_rep]; rfl) | rfl)))) | (with_reducible refine AWo.nil ?_) | ((with_reducible apply AW.seq)) | ((with_reducible apply Then.n)) | ((with_reducible apply AW.regL)) | ((with_reducible apply AW.block)) | ((with_reducible apply AW.skip)) | ((with_reducible apply AW.condT); exact rfl; (focus (first | rfl | (simp only [decide_eq_true_eq, decide_eq_false_iff_not, Bool.not_eq_true', Bool.not_eq_false', Bool.not_true, Bool.not_false]; first | assumption | omega))))))
          (refine AW.ret ?_; (repeat (first | refine Then.r ?_ | refine InBlk.r ?_)))
          exact ⟨_, rfl, _, by rw [hN, List.append_assoc], .inl ⟨e, rfl⟩⟩
        by_cases h4 : ko < 1
        · (repeat (first | (with_reducible refine AWo.cons ?_) | ((with_reducible refine Step.id ?_); first | ((with_reducible apply Step.gdT); exact rfl; exact rfl; (focus (first | rfl | (simp only [decide_eq_true_eq, decide_eq_false_iff_not, Bool.not_eq_true', Bool.not_eq_false', Bool.not_true, Bool.not_false]; first | assumption | omega)))) | ((with_reducible apply Step.gdF); exact rfl; exact rfl; (focus ((simp only [decide_eq_true_eq, decide_eq_false_iff_not, Bool.not_eq_true', Bool.not_eq_false', Bool.not_true, Bool.not_false]; first | assumption | omega)))) | ((with_reducible apply Step.move); exact rfl; exact rfl) | ((with_reducible apply Step.assign); exact rfl; exact rfl) | ((with_reducible apply Step.load); exact rfl; (focus (decide +kernel)); exact rfl; (focus (exact Rd.new rfl rfl))) | ((with_reducible apply Step.loadL (n := 5)); exact rfl; (focus (decide +kernel)); (focus (decide +kernel)); exact rfl; (focus (exact RdL.old _ (by assumption))); exact rfl; exact rfl) | ((with_reducible apply Step.ix (s := 5)); exact rfl; (focus (assumption)); exact rfl; (focus (decide +kernel)); exact rfl; (focus (omega))) | ((with_reducible apply Step.field0); exact rfl; (focus (decide +kernel)); exact rfl) | ((with_reducible apply Step.field (k := 1)); exact rfl; (focus (decide +kernel)); exact rfl) | ((with_reducible apply Step.field (k := 2)); exact rfl; (focus (decide +kernel)); exact rfl) | ((with_reducible apply Step.field (k := 3)); exact rfl; (focus (decide +kernel)); exact rfl) | ((with_reducible apply Step.lss); exact rfl; exact rfl; exact rfl) | ((with_reducible apply Step.gtr); exact rfl; exact rfl; exact rfl) | ((with_reducible apply Step.not); exact rfl; exact rfl) | ((with_reducible apply Step.pickT); exact rfl; exact rfl; exact rfl; exact rfl; (focus ((simp only [decide_eq_true_eq, decide_eq_false_iff_not, Bool.not_eq_true', Bool.not_eq_false', Bool.not_true, Bool.not_false]; first | assumption | omega)))) | ((with_reducible apply Step.pickF); exact rfl; exact rfl; exact rfl; exact rfl; (focus (first | rfl | (simp only [decide_eq_true_eq, decide_eq_false_iff_not, Bool.not_eq_true', Bool.not_eq_false', Bool.not_true, Bool.not_false]; first | assumption | omega)))) | ((with_reducible apply Step.callR fit); exact rfl; exact Tryd.func62; exact rfl; exact rfl; exact (hS _)) | ((with_reducible apply Step.alloc 0); exact rfl; exact ze99; exact rfl; (focus (first | (simp only [List.nil_append, List.cons_append, List.set_cons_zero, List.set_cons_succ, iv_set, bv_set, iv_rep, bv_rep]; done) | (simp only [List.nil_append, List.cons_append, List.set_cons_zero, List.set_cons_succ, iv_set, bv_set, iv_rep, bv_rep]; rfl) | rfl))) | ((with_reducible apply Step.storeA (k := 0) (n := 5)); exact rfl; exact rfl; exact rfl; exact rfl; (focus (decide +kernel)); exact rfl; (focus (kernel_rfl)); exact rfl; (focus (first | (simp only [List.nil_append, List.cons_append, List.set_cons_zero, List.set_cons_succ, iv_set, bv_set, iv_rep, bv_rep]; done) | (simp only [List.nil_append, List.cons_append, List.set_cons_zero, List.set_cons_succ, iv_set, bv_set, iv_rep, bv_rep]; rfl) | rfl)))) | (with_reducible refine AWo.nil ?_) | ((with_reducible apply AW.seq)) | ((with_reducible apply Then.n)) | ((with_reducible apply AW.regL)) | ((with_reducible apply AW.block)) | ((with_reducible apply AW.skip)) | ((with_reducible apply AW.condT); exact rfl; (focus (first | rfl | (simp only [decide_eq_true_eq, decide_eq_false_iff_not, Bool.not_eq_true', Bool.not_eq_false', Bool.not_true, Bool.not_false]; first | assumption | omega))))))
          (refine AW.ret ?_; (repeat (first | refine Then.r ?_ | refine InBlk.r ?_)))
          exact ⟨_, rfl, _, by rw [hN, List.append_assoc], .inl ⟨e, rfl⟩⟩
        have h5 : 1000000 < ko := by omega
        (repeat (first | (with_reducible refine AWo.cons ?_) | ((with_reducible refine Step.id ?_); first | ((with_reducible apply Step.gdT); exact rfl; exact rfl; (focus (first | rfl | (simp only [decide_eq_true_eq, decide_eq_false_iff_not, Bool.not_eq_true', Bool.not_eq_false', Bool.not_true, Bool.not_false]; first | assumption | omega)))) | ((with_reducible apply Step.move); exact rfl; exact rfl) | ((with_reducible apply Step.assign); exact rfl; exact rfl) | ((with_reducible apply Step.load); exact rfl; (focus (decide +kernel)); exact rfl; (focus (exact Rd.new rfl rfl))) | ((with_reducible apply Step.loadL (n := 5)); exact rfl; (focus (decide +kernel)); (focus (decide +kernel)); exact rfl; (focus (exact RdL.old _ (by assumption))); exact rfl; exact rfl) | ((with_reducible apply Step.ix (s := 5)); exact rfl; (focus (assumption)); exact rfl; (focus (decide +kernel)); exact rfl; (focus (omega))) | ((with_reducible apply Step.field0); exact rfl; (focus (decide +kernel)); exact rfl) | ((with_reducible apply Step.field (k := 1)); exact rfl; (focus (decide +kernel)); exact rfl) | ((with_reducible apply Step.field (k := 2)); exact rfl; (focus (decide +kernel)); exact rfl) | ((with_reducible apply Step.field (k := 3)); exact rfl; (focus (decide +kernel)); exact rfl) | ((with_reducible apply Step.lss); exact rfl; exact rfl; exact rfl) | ((with_reducible apply Step.gtr); exact rfl; exact rfl; exact rfl) | ((with_reducible apply Step.not); exact rfl; exact rfl) | ((with_reducible apply Step.pickF); exact rfl; exact rfl; exact rfl; exact rfl; (focus (first | rfl | (simp only [decide_eq_true_eq, decide_eq_false_iff_not, Bool.not_eq_true', Bool.not_eq_false', Bool.not_true, Bool.not_false]; first | assumption | omega)))) | ((with_reducible apply Step.callR fit); exact rfl; exact Tryd.func62; exact rfl; exact rfl; exact (hS _)) | ((with_reducible apply Step.alloc 0); exact rfl; exact ze99; exact rfl; (focus (first | (simp only [List.nil_append, List.cons_append, List.set_cons_zero, List.set_cons_succ, iv_set, bv_set, iv_rep, bv_rep]; done) | (simp only [List.nil_append, List.cons_append, List.set_cons_zero, List.set_cons_succ, iv_set, bv_set, iv_rep, bv_rep]; rfl) | rfl))) | ((with_reducible apply Step.storeA (k := 0) (n := 5)); exact rfl; exact rfl; exact rfl; exact rfl; (focus (decide +kernel)); exact rfl; (focus (kernel_rfl)); exact rfl; (focus (first | (simp only [List.nil_append, List.cons_append, List.set_cons_zero, List.set_cons_succ, iv_set, bv_set, iv_rep, bv_rep]; done) | (simp only [List.nil_append, List.cons_append, List.set_cons_zero, List.set_cons_succ, iv_set, bv_set, iv_rep, bv_rep]; rfl) | rfl)))) | (with_reducible refine AWo.nil ?_) | ((with_reducible apply AW.seq)) | ((with_reducible apply Then.n)) | ((with_reducible apply AW.regL)) | ((with_reducible apply AW.block)) | ((with_reducible apply AW.skip)) | ((with_reducible apply AW.condT); exact rfl; (focus ((simp only [decide_eq_true_eq, decide_eq_false_iff_not, Bool.not_eq_true', Bool.not_eq_false', Bool.not_true, Bool.not_false]; first | assumption | omega))))))
        (refine AW.ret ?_; (repeat (first | refine Then.r ?_ | refine InBlk.r ?_)))
        exact ⟨_, rfl, _, by rw [hN, List.append_assoc], .inl ⟨e, rfl⟩⟩
      · have e3 : sidesB kw kh = false := decide_eq_false h1
        rw [e3] at hS
        (repeat (first | (with_reducible refine AWo.cons ?_) | ((with_reducible refine Step.id ?_); first | ((with_reducible apply Step.gdF); exact rfl; exact rfl; (focus (rfl))) | ((with_reducible apply Step.move); exact rfl; exact rfl) | ((with_reducible apply Step.assign); exact rfl; exact rfl) | ((with_reducible apply Step.load); exact rfl; (focus (decide +kernel)); exact rfl; (focus (exact Rd.new rfl rfl))) | ((with_reducible apply Step.loadL (n := 5)); exact rfl; (focus (decide +kernel)); (focus (decide +kernel)); exact rfl; (focus (exact RdL.old _ (by assumption))); exact rfl; exact rfl) | ((with_reducible apply Step.ix (s := 5)); exact rfl; (focus (assumption)); exact rfl; (focus (decide +kernel)); exact rfl; (focus (omega))) | ((with_reducible apply Step.field0); exact rfl; (focus (decide +kernel)); exact rfl) | ((with_reducible apply Step.field (k := 1)); exact rfl; (focus (decide +kernel)); exact rfl) | ((with_reducible apply Step.lss); exact rfl; exact rfl; exact rfl) | ((with_reducible apply Step.not); exact rfl; exact rfl) | ((with_reducible apply Step.pickT); exact rfl; exact rfl; exact rfl; exact rfl; (focus (rfl))) | ((with_reducible apply Step.callR fit); exact rfl; exact Tryd.func62; exact rfl; exact rfl; exact (hS _)) | ((with_reducible apply Step.alloc 0); exact rfl; exact ze99; exact rfl; (focus (first | (simp only [List.nil_append, List.cons_append, List.set_cons_zero, List.set_cons_succ, iv_set, bv_set, iv_rep, bv_rep]; done) | (simp only [List.nil_append, List.cons_append, List.set_cons_zero, List.set_cons_succ, iv_set, bv_set, iv_rep, bv_rep]; rfl) | rfl))) | ((with_reducible apply Step.storeA (k := 0) (n := 5)); exact rfl; exact rfl; exact rfl; exact rfl; (focus (decide +kernel)); exact rfl; (focus (kernel_rfl)); exact rfl; (focus (first | (simp only [List.nil_append, List.cons_append, List.set_cons_zero, List.set_cons_succ, iv_set, bv_set, iv_rep, bv_rep]; done) | (simp only [List.nil_append, List.cons_append, List.set_cons_zero, List.set_cons_succ, iv_set, bv_set, iv_rep, bv_rep]; rfl) | rfl)))) | (with_reducible refine AWo.nil ?_) | ((with_reducible apply AW.seq)) | ((with_reducible apply Then.n)) | ((with_reducible apply AW.regL)) | ((with_reducible apply AW.block)) | ((with_reducible apply AW.skip)) | ((with_reducible apply AW.condT); exact rfl; (focus (first | rfl | (simp only [decide_eq_true_eq, decide_eq_false_iff_not, Bool.not_eq_true', Bool.not_eq_false', Bool.not_true, Bool.not_false]; first | assumption | omega))))))
        (refine AW.ret ?_; (repeat (first | refine Then.r ?_ | refine InBlk.r ?_)))
        exact ⟨_, rfl, _, by rw [hN, List.append_assoc], .inl ⟨e, rfl⟩⟩
    | true =>
      have hkk := kdB_in hkd
      have hT : ∀ T, Strs (M' ++ T) (.slice q1 B.length c1) B := fun T => hsm.old T
      have hd' : ∀ j, j < i + 1 → kdB (K.getD j default) = true := fun j hj => by
        rcases Nat.lt_succ_iff_lt_or_eq.1 hj with h | rfl
        · exact hd j h
        · exact hkd
      have hmore := fun tp m1 => hP.more (tp := tp) (m1 := m1) (l := l) hpq
      have hsame := fun L => hP.same (l := l) L
      have hpb : Rd M' p 4 (.map (some q)) := ⟨_, hP.pb, rfl⟩
      generalize K.getD i default = k at rk hkk hmore hsame
      obtain ⟨kw, kh, kg, ko, kt⟩ := k
      simp only [Kd.cells] at rk
      simp only at hkk hmore hsame
      have hS := fun m => sides_ok (m := m) kw kh
      have e3 : sidesB kw kh = true := decide_eq_true (by omega)
      rw [e3] at hS
      (repeat (first | (with_reducible refine AWo.cons ?_) | ((with_reducible refine Step.id ?_); first | ((with_reducible apply Step.gdT); exact rfl; exact rfl; (focus (first | rfl | (simp only [decide_eq_true_eq, decide_eq_false_iff_not, Bool.not_eq_true', Bool.not_eq_false', Bool.not_true, Bool.not_false]; first | assumption | omega)))) | ((with_reducible apply Step.move); exact rfl; exact rfl) | ((with_reducible apply Step.load); exact rfl; (focus (decide +kernel)); exact rfl; (focus (first | exact Rd.new rfl rfl | exact Rd.old _ (by assumption)))) | ((with_reducible apply Step.loadL (n := 5)); exact rfl; (focus (decide +kernel)); (focus (decide +kernel)); exact rfl; (focus (exact RdL.old _ (by assumption))); exact rfl; exact rfl) | ((with_reducible apply Step.ix (s := 5)); exact rfl; (focus (assumption)); exact rfl; (focus (decide +kernel)); exact rfl; (focus (omega))) | ((with_reducible apply Step.field0); exact rfl; (focus (decide +kernel)); exact rfl) | ((with_reducible apply Step.field (k := 1)); exact rfl; (focus (decide +kernel)); exact rfl) | ((with_reducible apply Step.field (k := 2)); exact rfl; (focus (decide +kernel)); exact rfl) | ((with_reducible apply Step.field (k := 3)); exact rfl; (focus (decide +kernel)); exact rfl) | ((with_reducible apply Step.field (k := 4)); exact rfl; (focus (decide +kernel)); exact rfl) | ((with_reducible apply Step.lss); exact rfl; exact rfl; exact rfl) | ((with_reducible apply Step.gtr); exact rfl; exact rfl; exact rfl) | ((with_reducible apply Step.not); exact rfl; exact rfl) | ((with_reducible apply Step.nilp); exact rfl; exact rfl) | ((with_reducible apply Step.pickF); exact rfl; exact rfl; exact rfl; exact rfl; (focus (first | rfl | (simp only [decide_eq_true_eq, decide_eq_false_iff_not, Bool.not_eq_true', Bool.not_eq_false', Bool.not_true, Bool.not_false]; first | assumption | omega)))) | ((with_reducible apply Step.callR fit); exact rfl; exact Tryd.func62; exact rfl; exact rfl; exact (hS _)) | ((with_reducible apply Step.alloc 0); exact rfl; exact ze99; exact rfl; (focus (first | (simp only [List.nil_append, List.cons_append, List.set_cons_zero, List.set_cons_succ, iv_set, bv_set, iv_rep, bv_rep]; done) | (simp only [List.nil_append, List.cons_append, List.set_cons_zero, List.set_cons_succ, iv_set, bv_set, iv_rep, bv_rep]; rfl) | rfl))) | ((with_reducible apply Step.storeA (k := 0) (n := 5)); exact rfl; exact rfl; exact rfl; exact rfl; (focus (decide +kernel)); exact rfl; (focus (kernel_rfl)); exact rfl; (focus (first | (simp only [List.nil_append, List.cons_append, List.set_cons_zero, List.set_cons_succ, iv_set, bv_set, iv_rep, bv_rep]; done) | (simp only [List.nil_append, List.cons_append, List.set_cons_zero, List.set_cons_succ, iv_set, bv_set, iv_rep, bv_rep]; rfl) | rfl)))) | (with_reducible refine AWo.nil ?_) | ((with_reducible apply AW.seq)) | ((with_reducible apply Then.n)) | ((with_reducible apply AW.regL)) | ((with_reducible apply AW.block)) | ((with_reducible apply AW.drawL fit); (focus (decide +kernel))) | ((with_reducible apply AW.skip)) | ((with_reducible apply AW.condT); exact rfl; (focus ((simp only [decide_eq_true_eq, decide_eq_false_iff_not, Bool.not_eq_true', Bool.not_eq_false', Bool.not_true, Bool.not_false]; first | assumption | omega)))) | ((with_reducible apply AW.condF); exact rfl; (focus ((simp only [decide_eq_true_eq, decide_eq_false_iff_not, Bool.not_eq_true', Bool.not_eq_false', Bool.not_true, Bool.not_false]; first | assumption | omega))))))
      ((with_reducible apply Step.mapGet); exact rfl; exact rfl; exact (get_old _ hq); exact rfl; exact rfl; exact un103; exact un3; exact zr141; exact rfl)
      cases hlk : mlook l kg with
      | some v =>
        obtain ⟨tp, rfl, _⟩ := hl1 _ _ hlk
        simp only [Option.getD_some]
        (repeat (first | (with_reducible refine AWo.cons ?_) | ((with_reducible refine Step.id ?_); first | ((with_reducible apply Step.move); exact rfl; exact rfl) | ((with_reducible apply Step.ptrNot); exact rfl; exact rfl; exact un141; exact rfl) | ((with_reducible apply Step.add); exact rfl; exact rfl; (focus (omega)); exact rfl)) | (with_reducible refine AWo.nil ?_) | ((with_reducible apply Then.n)) | ((with_reducible apply AW.regL)) | ((with_reducible apply InBlk.n)) | ((with_reducible apply AW.skip)) | ((with_reducible apply AW.condF); exact rfl; (focus (rfl)))))
        exact ⟨_, _, by omega, (by repeat (first | exact trivial | (refine And.intro rfl ?_))), i + 1, rfl, hlt, hd', hsame _ hq hl1 hl2 (by rw [hlk]; rfl), rfl⟩
      | none =>
        simp only [Option.getD_none]
        (repeat (first | (with_reducible refine AWo.cons ?_) | ((with_reducible refine Step.id ?_); first | ((with_reducible apply Step.move); exact rfl; exact rfl) | ((with_reducible apply Step.load); exact rfl; (focus (decide +kernel)); exact rfl; (focus (exact Rd.new rfl rfl))) | ((with_reducible apply Step.field (k := 2)); exact rfl; (focus (decide +kernel)); exact rfl) | ((with_reducible apply Step.field (k := 4)); exact rfl; (focus (decide +kernel)); exact rfl) | ((with_reducible apply Step.ptrNil); exact rfl; exact rfl; exact un141; exact rfl) | ((with_reducible apply Step.nilp); exact rfl; exact rfl)) | (with_reducible refine AWo.nil ?_) | ((with_reducible apply Then.n)) | ((with_reducible apply AW.drawT fit (T := (.step 0 (.step 1 (.step 2 (.step 4 (.step 6 (.step 7 (.step 8 (.both (.step 3 (.both (.step 5 (.step 9 (.step 10 (.step 11 (.step 12 (.step 13 .done)))))) (.step 9 (.step 5 (.step 10 (.step 11 (.step 12 (.step 13 .done)))))))) (.both (.step 5 (.both (.step 3 (.step 9 (.step 10 (.step 11 (.step 12 (.step 13 .done)))))) (.step 9 (.step 3 (.step 10 (.step 11 (.step 12 (.step 13 .done)))))))) (.step 9 (.step 3 (.step 5 (.step 10 (.step 11 (.step 12 (.step 13 .done)))))))))))))))))); (focus (decide +kernel))) | ((with_reducible apply AWt.step); exact rfl) | ((with_reducible apply AW.condT); exact rfl; (focus (rfl)))))
        (repeat' (first | ((with_reducible refine Step.id ?_); ((with_reducible apply Step.load); exact rfl; (focus (decide +kernel)); exact rfl; (focus (first | exact Rd.new rfl rfl | exact Rd.old _ (by assumption))))) | ((with_reducible apply AWt.step); exact rfl) | refine AWt.both ?_ ?_))
        all_goals
          ((with_reducible apply Step.callX fit); exact rfl; exact Tryd.func63; exact rfl; exact rfl; exact (NewTable_ok (hT _) hv (by omega)))
          rintro v m1 ⟨L1, hL1⟩ ⟨tp, htl, rfl, hTab⟩
          have z1 : Rd m1 (M'.length + 0) 2 (.int .i64 kg) := by rw [hL1]; exact Rd.old _ (Rd.new rfl rfl)
          have z2 : Rd m1 p 4 (.map (some q)) := by rw [hL1, List.append_assoc]; exact hpb.old _
          have z3 : m1[q]? = some (some { cells := [], kind := .map, ents := mks l }) := by rw [hL1, List.append_assoc]; exact get_old _ hq
          have z4 := hmore tp m1 ⟨_, by rw [hL1, List.append_assoc]⟩ hq hTab hl1 hl2
          clear hL1 hTab
          rw [List.append_nil]
          (repeat' (first | ((with_reducible refine Step.id ?_); first | ((with_reducible apply Step.move); exact rfl; exact rfl) | ((with_reducible apply Step.load); exact rfl; (focus (decide +kernel)); exact rfl; (focus (assumption))) | ((with_reducible apply Step.extract); exact rfl; exact rfl; exact rfl)) | ((with_reducible apply AWt.step); exact rfl)))
          all_goals
            ((with_reducible apply Step.mapAdd); exact rfl; exact rfl; exact rfl; exact z3; exact hlk; exact un103; exact un3)
            (repeat' (first | (with_reducible refine AWo.cons ?_) | ((with_reducible refine Step.id ?_); first | ((with_reducible apply Step.move); exact rfl; exact rfl) | ((with_reducible apply Step.add); exact rfl; exact rfl; (focus (omega)); exact rfl)) | (with_reducible refine AWo.nil ?_) | ((with_reducible apply Then.n)) | ((with_reducible apply AW.regL)) | ((with_reducible apply AWt.done)) | ((with_reducible apply InBlk.n))))
            all_goals exact ⟨_, _, by omega, (by repeat (first | exact trivial | (refine And.intro rfl ?_))), i + 1, rfl, hlt, hd', z4, rfl⟩
  · obtain rfl : i = K.length := by omega
    (repeat (first | (with_reducible refine AWo.cons ?_) | ((with_reducible refine Step.id ?_); first | ((with_reducible apply Step.move); exact rfl; exact rfl) | ((with_reducible apply Step.assign); exact rfl; exact rfl) | ((with_reducible apply Step.lss); exact rfl; exact rfl; exact rfl)) | (with_reducible refine AWo.nil ?_) | ((with_reducible apply AW.seq)) | ((with_reducible apply Then.n)) | ((with_reducible apply AW.regL)) | ((with_reducible apply AW.exit)) | ((with_reducible apply InBlk.hit)) | ((with_reducible apply Then.e)) | ((with_reducible apply AW.condF); exact rfl; (focus ((simp only [decide_eq_true_eq, decide_eq_false_iff_not, Bool.not_eq_true', Bool.not_eq_false', Bool.not_true, Bool.not_false]; first | assumption | omega))))))
    (refine AW.ret ?_; (repeat (first | refine Then.r ?_ | refine InBlk.r ?_)))
    have hg : goodB B K = true := by simp [goodB, boardB, hv, hb, kinds_all (by omega) hd]
    exact ⟨_, rfl, N, hN, .inr ⟨hg, p, by omega, rfl, hP.done hs hk⟩⟩
end Go.Proofs.YtedbjmgchfgabaaDoor.Abs
namespace Go.Proofs.YtedbjmgchfgabaaDoor.Abs
set_option linter.unusedSimpArgs false
set_option linter.unusedVariables false
open Go.RowKit
open Go.Proofs.YtedbjmgchfgabaaDoor.Sim
open Go.Proofs
theorem newBoard_ok {m : AM} {sv kv : Value} {B : Brd} {K : List Kd} (hs : Strs m sv B) (hk : Kds m kv K) (hg : goodB B K = true) :
    ACall Tryd.prog 34 #[sv, kv] m (More (fun m' v => ∃ p, m.length ≤ p ∧ v = .pointer (some ⟨p, 0, none⟩) ∧ BoardAt m' p B K) m) :=
  (newBoard_any hs hk).mono fun v m' ⟨N, hN, h⟩ => ⟨N, hN, by
    rcases h with ⟨h1, _⟩ | ⟨_, h⟩
    · rw [hg] at h1; cases h1
    · exact h⟩
theorem newBoard_no {m : AM} {sv kv : Value} {B : Brd} {K : List Kd} (hs : Strs m sv B) (hk : Kds m kv K) (hg : goodB B K = false) : ACall Tryd.prog 34 #[sv, kv] m (Ret (.pointer none) m) :=
  ACall.drop (Ren.of_g0 rfl) ((newBoard_any hs hk).mono fun v m' ⟨N, hN, h⟩ => by
    rcases h with ⟨_, h⟩ | ⟨h1, _⟩
    · exact ⟨h, N, hN⟩
    · rw [hg] at h1; cases h1)
def upB (k : Kd) (r : R4) : Bool := decide (k.w = r.a ∧ k.h = r.b)
def tnB (k : Kd) (r : R4) : Bool := k.turn && decide (k.w = r.b ∧ k.h = r.a)
def turnedB (k : Kd) (r : R4) : Bool := !upB k r && tnB k r
def okB (B : Brd) (k : Kd) (r : R4) : Bool := (upB k r || tnB k r) && decide (cnt B k.g r.x r.y r.a r.b = r.a * r.b)
theorem fits_aux (A C D : Prop) [Decidable A] [Decidable C] [Decidable D] (t : Bool) :
    (if A then (if D then some false else none) else if t = true ∧ C then (if D then some true else none) else none) = if ((decide A || (t && decide C)) && decide D) = true then some (!decide A && (t && decide C)) else none := by
  by_cases A <;> by_cases C <;> by_cases D <;> cases t <;> simp [*]
theorem fitsM_eq (B : Brd) (k : Kd) (r : R4) : fitsM B k r = if okB B k r = true then some (turnedB k r) else none :=
  fits_aux (k.w = r.a ∧ k.h = r.b) (k.w = r.b ∧ k.h = r.a) (cnt B k.g r.x r.y r.a r.b = r.a * r.b) k.turn
theorem fitsM_some (B : Brd) (k : Kd) (r : R4) : (fitsM B k r).isSome = okB B k r := by
  rw [fitsM_eq]; cases okB B k r <;> rfl
theorem area_le {w h : Nat} {r : R4} (hw : w ≤ 16) (hh : h ≤ 16) (hr : r.ok w h) : r.a * r.b ≤ 256 := by
  unfold R4.ok at hr
  exact Nat.le_trans (Nat.mul_le_mul (show r.a ≤ 16 by omega) (show r.b ≤ 16 by omega)) (by omega)
set_option maxHeartbeats 4000000 in
set_option maxRecDepth 100000 in
theorem fits_ok {m : AM} {p : Nat} {B : Brd} {K : List Kd} (hB : BoardAt m p B K) (hg : goodB B K = true) {k : Nat} (hk : k < K.length) {r : R4} (hr : r.ok (bw B) (bh B)) :
    ACall Tryd.prog 78 #[.pointer (some ⟨p, 0, none⟩), .int .i64 (k : Nat), r.rc.v] m (Ret (.tuple #[.bool (turnedB (K.getD k default) r), .bool (okB B (K.getD k default) r)]) m) := by
  have hgb : boardB B = true := by simp only [goodB, Bool.and_eq_true] at hg; exact hg.1
  have hin := good_in hgb
  have hab := area_le hin.2.2.2 hin.2.1 hr
  obtain ⟨_, ⟨kv, k1, A, O, sl, la, rd⟩, _, _, q, l, b, h7, h8, h9, h10, h11⟩ := hB
  obtain ⟨tp, h12, h13⟩ := h11 k hk
  have rk := rd k hk
  generalize K.getD k default = kd at *
  obtain ⟨kw, kh, kg, ko, kt⟩ := kd
  simp only [Kd.cells] at rk h12 h13
  obtain ⟨q', c', rfl⟩ := sl.shape
  have hC := fun T => Count_ok (h13.old T) (by omega) (by omega) hr
  obtain ⟨x, y, a, bb⟩ := r
  simp only at hab hC
  have e1 : (a : Int) * (bb : Int) = ((a * bb : Nat) : Int) := by simp
  have e2 : ((cnt B kg x y a bb : Nat) : Int) = ((a * bb : Nat) : Int) ↔ cnt B kg x y a bb = a * bb := by omega
  change ACall Tryd.prog 78 #[.pointer (some ⟨p, 0, none⟩), .int .i64 (k : Nat), .agg #[.int .i64 (x : Nat), .int .i64 (y : Nat), .int .i64 (a : Nat), .int .i64 (bb : Nat)]] m (Ret (.tuple #[.bool (turnedB ⟨kw, kh, kg, ko, kt⟩ ⟨x, y, a, bb⟩), .bool (okB B ⟨kw, kh, kg, ko, kt⟩ ⟨x, y, a, bb⟩)]) m)
  refine ACall.start Tryd.func78 rfl rfl ?_
  have fin : ∀ (T : AM) (tn : Bool), tn = turnedB ⟨kw, kh, kg, ko, kt⟩ ⟨x, y, a, bb⟩ → (upB ⟨kw, kh, kg, ko, kt⟩ ⟨x, y, a, bb⟩ || tnB ⟨kw, kh, kg, ko, kt⟩ ⟨x, y, a, bb⟩) = true →
      Ret (.tuple #[.bool (turnedB ⟨kw, kh, kg, ko, kt⟩ ⟨x, y, a, bb⟩), .bool (okB B ⟨kw, kh, kg, ko, kt⟩ ⟨x, y, a, bb⟩)]) m (.tuple #[.bool tn, .bool (decide (((cnt B kg x y a bb : Nat) : Int) = ((a * bb : Nat) : Int)))]) m := fun T tn h1 h2 => by
    refine ⟨?_, rfl⟩
    have e3 : decide (((cnt B kg x y a bb : Nat) : Int) = ((a * bb : Nat) : Int)) = decide (cnt B kg x y a bb = a * bb) := decide_eq_decide.2 e2
    unfold okB
    rw [h1, h2, Bool.true_and, e3]
  have no : (upB ⟨kw, kh, kg, ko, kt⟩ ⟨x, y, a, bb⟩ || tnB ⟨kw, kh, kg, ko, kt⟩ ⟨x, y, a, bb⟩) = false →
      Ret (.tuple #[.bool (turnedB ⟨kw, kh, kg, ko, kt⟩ ⟨x, y, a, bb⟩), .bool (okB B ⟨kw, kh, kg, ko, kt⟩ ⟨x, y, a, bb⟩)]) m (.tuple #[.bool false, .bool false]) m := fun h2 => by
    refine ⟨?_, rfl⟩
    have h3 : tnB ⟨kw, kh, kg, ko, kt⟩ ⟨x, y, a, bb⟩ = false := (Bool.or_eq_false_iff.1 h2).2
    unfold okB turnedB
    rw [h2, h3, Bool.false_and, Bool.and_false]
  by_cases u : kw = (a : Int) ∧ kh = (bb : Int)
  · obtain ⟨u1, u2⟩ := u
    (repeat' (first | (with_reducible refine AWo.cons ?_) | ((with_reducible refine Step.id ?_); first | ((with_reducible apply Step.gdT); exact rfl; exact rfl; (focus ((simp only [decide_eq_true_eq, decide_eq_false_iff_not, Bool.not_eq_true', Bool.not_eq_false', Bool.not_true, Bool.not_false]; first | assumption | omega)))) | ((with_reducible apply Step.move); exact rfl; exact rfl) | ((with_reducible apply Step.assign); exact rfl; exact rfl) | ((with_reducible apply Step.load); exact rfl; (focus (decide +kernel)); exact rfl; (focus (first | exact Rd.new rfl rfl | exact Rd.old _ (by assumption)))) | ((with_reducible apply Step.loadL (n := 5)); exact rfl; (focus (decide +kernel)); (focus (decide +kernel)); exact rfl; (focus (exact RdL.old _ (by assumption))); exact rfl; exact rfl) | ((with_reducible apply Step.ix (s := 5)); exact rfl; (focus (assumption)); exact rfl; (focus (decide +kernel)); exact rfl; (focus (omega))) | ((with_reducible apply Step.field0); exact rfl; (focus (decide +kernel)); exact rfl) | ((with_reducible apply Step.field (k := 1)); exact rfl; (focus (decide +kernel)); exact rfl) | ((with_reducible apply Step.field (k := 2)); exact rfl; (focus (decide +kernel)); exact rfl) | ((with_reducible apply Step.field (k := 3)); exact rfl; (focus (decide +kernel)); exact rfl) | ((with_reducible apply Step.field (k := 4)); exact rfl; (focus (decide +kernel)); exact rfl) | ((with_reducible apply Step.eql); exact rfl; exact rfl; exact rfl) | ((with_reducible apply Step.nilp); exact rfl; exact rfl) | ((with_reducible apply Step.pickT); exact rfl; exact rfl; exact rfl; exact rfl; (focus ((simp only [decide_eq_true_eq, decide_eq_false_iff_not, Bool.not_eq_true', Bool.not_eq_false', Bool.not_true, Bool.not_false]; first | assumption | omega)))) | ((with_reducible apply Step.box 0); exact rfl; exact rfl; (focus (kernel_rfl)); exact rfl; (focus (first | (simp only [List.nil_append, List.cons_append, List.set_cons_zero, List.set_cons_succ, iv_set, bv_set, iv_rep, bv_rep]; done) | (simp only [List.nil_append, List.cons_append, List.set_cons_zero, List.set_cons_succ, iv_set, bv_set, iv_rep, bv_rep]; rfl) | rfl))) | ((with_reducible apply Step.alloc 1); exact rfl; exact ze99; exact rfl; (focus (first | (simp only [List.nil_append, List.cons_append, List.set_cons_zero, List.set_cons_succ, iv_set, bv_set, iv_rep, bv_rep]; done) | (simp only [List.nil_append, List.cons_append, List.set_cons_zero, List.set_cons_succ, iv_set, bv_set, iv_rep, bv_rep]; rfl) | rfl))) | ((with_reducible apply Step.storeA (k := 1) (n := 5)); exact rfl; exact rfl; exact rfl; exact rfl; (focus (decide +kernel)); exact rfl; (focus (kernel_rfl)); exact rfl; (focus (first | (simp only [List.nil_append, List.cons_append, List.set_cons_zero, List.set_cons_succ, iv_set, bv_set, iv_rep, bv_rep]; done) | (simp only [List.nil_append, List.cons_append, List.set_cons_zero, List.set_cons_succ, iv_set, bv_set, iv_rep, bv_rep]; rfl) | rfl)))) | (with_reducible refine AWo.nil ?_) | ((with_reducible apply AW.seq)) | ((with_reducible apply Then.n)) | ((with_reducible apply AW.regL)) | ((with_reducible apply AW.block)) | ((with_reducible apply AW.drawL fit); (focus (decide +kernel))) | ((with_reducible apply InBlk.n)) | ((with_reducible apply AW.skip)) | ((with_reducible apply AW.condT); exact rfl; (focus ((simp only [decide_eq_true_eq, decide_eq_false_iff_not, Bool.not_eq_true', Bool.not_eq_false', Bool.not_true, Bool.not_false]; first | assumption | omega))))))
    all_goals
      ((with_reducible apply Step.mapGet); exact rfl; exact rfl; exact (get_old _ h8); exact h9; exact h10; exact un103; exact un3; exact zr141; exact rfl)
      rw [h12]
      simp only [Option.getD_some]
      (repeat' (first | (with_reducible refine AWo.cons ?_) | ((with_reducible refine Step.id ?_); first | ((with_reducible apply Step.move); exact rfl; exact rfl) | ((with_reducible apply Step.assign); exact rfl; exact rfl) | ((with_reducible apply Step.load); exact rfl; (focus (decide +kernel)); exact rfl; (focus (exact Rd.new rfl rfl))) | ((with_reducible apply Step.loadL (n := 4)); exact rfl; (focus (decide +kernel)); (focus (decide +kernel)); exact rfl; (focus (exact RdL.new rfl rfl)); exact rfl; exact rfl) | ((with_reducible apply Step.field (k := 2)); exact rfl; (focus (decide +kernel)); exact rfl) | ((with_reducible apply Step.field (k := 3)); exact rfl; (focus (decide +kernel)); exact rfl) | ((with_reducible apply Step.mulE); exact rfl; exact rfl; (focus (assumption)); (focus (omega)); exact rfl) | ((with_reducible apply Step.eql); exact rfl; exact rfl; exact rfl) | ((with_reducible apply Step.extract); exact rfl; exact rfl; exact rfl) | ((with_reducible apply Step.callR fit); exact rfl; exact Tryd.func102; exact rfl; exact rfl; exact (hC _))) | (with_reducible refine AWo.nil ?_) | ((with_reducible apply AW.seq)) | ((with_reducible apply Then.n)) | ((with_reducible apply AW.drawL fit); (focus (decide +kernel)))))
      all_goals
        (refine AW.retD (l := [(6, _), (7, _)]) (by repeat (first | exact trivial | (refine And.intro ⟨rfl, by (exact .bool _)⟩ ?_))) ?_; (repeat (first | refine Then.r ?_ | refine InBlk.r ?_)))
        exact ⟨_, rfl, fin [] _ (by simp [turnedB, upB, u1, u2]) (by simp [upB, u1, u2])⟩
  have hup : upB ⟨kw, kh, kg, ko, kt⟩ ⟨x, y, a, bb⟩ = false := decide_eq_false u
  by_cases v : kt = true ∧ kw = (bb : Int) ∧ kh = (a : Int)
  · obtain ⟨v0, v1, v2⟩ := v
    subst v0
    have htn : tnB ⟨kw, kh, kg, ko, true⟩ ⟨x, y, a, bb⟩ = true := decide_eq_true (p := kw = (bb : Int) ∧ kh = (a : Int)) ⟨v1, v2⟩
    by_cases u1 : kw = (a : Int)
    · exact absurd ⟨u1, by omega⟩ u
    · (repeat' (first | (with_reducible refine AWo.cons ?_) | ((with_reducible refine Step.id ?_); first | ((with_reducible apply Step.gdT); exact rfl; exact rfl; (focus (first | rfl | (simp only [decide_eq_true_eq, decide_eq_false_iff_not, Bool.not_eq_true', Bool.not_eq_false', Bool.not_true, Bool.not_false]; first | assumption | omega)))) | ((with_reducible apply Step.gdF); exact rfl; exact rfl; (focus ((simp only [decide_eq_true_eq, decide_eq_false_iff_not, Bool.not_eq_true', Bool.not_eq_false', Bool.not_true, Bool.not_false]; first | assumption | omega)))) | ((with_reducible apply Step.move); exact rfl; exact rfl) | ((with_reducible apply Step.assign); exact rfl; exact rfl) | ((with_reducible apply Step.load); exact rfl; (focus (decide +kernel)); exact rfl; (focus (first | exact Rd.new rfl rfl | exact Rd.old _ (by assumption)))) | ((with_reducible apply Step.loadL (n := 5)); exact rfl; (focus (decide +kernel)); (focus (decide +kernel)); exact rfl; (focus (exact RdL.old _ (by assumption))); exact rfl; exact rfl) | ((with_reducible apply Step.ix (s := 5)); exact rfl; (focus (assumption)); exact rfl; (focus (decide +kernel)); exact rfl; (focus (omega))) | ((with_reducible apply Step.field0); exact rfl; (focus (decide +kernel)); exact rfl) | ((with_reducible apply Step.field (k := 1)); exact rfl; (focus (decide +kernel)); exact rfl) | ((with_reducible apply Step.field (k := 2)); exact rfl; (focus (decide +kernel)); exact rfl) | ((with_reducible apply Step.field (k := 3)); exact rfl; (focus (decide +kernel)); exact rfl) | ((with_reducible apply Step.field (k := 4)); exact rfl; (focus (decide +kernel)); exact rfl) | ((with_reducible apply Step.eql); exact rfl; exact rfl; exact rfl) | ((with_reducible apply Step.nilp); exact rfl; exact rfl) | ((with_reducible apply Step.pickT); exact rfl; exact rfl; exact rfl; exact rfl; (focus (first | rfl | (simp only [decide_eq_true_eq, decide_eq_false_iff_not, Bool.not_eq_true', Bool.not_eq_false', Bool.not_true, Bool.not_false]; first | assumption | omega)))) | ((with_reducible apply Step.pickF); exact rfl; exact rfl; exact rfl; exact rfl; (focus ((simp only [decide_eq_true_eq, decide_eq_false_iff_not, Bool.not_eq_true', Bool.not_eq_false', Bool.not_true, Bool.not_false]; first | assumption | omega)))) | ((with_reducible apply Step.box 0); exact rfl; exact rfl; (focus (kernel_rfl)); exact rfl; (focus (first | (simp only [List.nil_append, List.cons_append, List.set_cons_zero, List.set_cons_succ, iv_set, bv_set, iv_rep, bv_rep]; done) | (simp only [List.nil_append, List.cons_append, List.set_cons_zero, List.set_cons_succ, iv_set, bv_set, iv_rep, bv_rep]; rfl) | rfl))) | ((with_reducible apply Step.alloc 1); exact rfl; exact ze99; exact rfl; (focus (first | (simp only [List.nil_append, List.cons_append, List.set_cons_zero, List.set_cons_succ, iv_set, bv_set, iv_rep, bv_rep]; done) | (simp only [List.nil_append, List.cons_append, List.set_cons_zero, List.set_cons_succ, iv_set, bv_set, iv_rep, bv_rep]; rfl) | rfl))) | ((with_reducible apply Step.storeA (k := 1) (n := 5)); exact rfl; exact rfl; exact rfl; exact rfl; (focus (decide +kernel)); exact rfl; (focus (kernel_rfl)); exact rfl; (focus (first | (simp only [List.nil_append, List.cons_append, List.set_cons_zero, List.set_cons_succ, iv_set, bv_set, iv_rep, bv_rep]; done) | (simp only [List.nil_append, List.cons_append, List.set_cons_zero, List.set_cons_succ, iv_set, bv_set, iv_rep, bv_rep]; rfl) | rfl)))) | (with_reducible refine AWo.nil ?_) | ((with_reducible apply AW.seq)) | ((with_reducible apply Then.n)) | ((with_reducible apply AW.regL)) | ((with_reducible apply AW.block)) | ((with_reducible apply AW.drawL fit); (focus (decide +kernel))) | ((with_reducible apply InBlk.n)) | ((with_reducible apply AW.condT); exact rfl; (focus ((simp only [decide_eq_true_eq, decide_eq_false_iff_not, Bool.not_eq_true', Bool.not_eq_false', Bool.not_true, Bool.not_false]; first | assumption | omega)))) | ((with_reducible apply AW.condF); exact rfl; (focus (rfl)))))
      all_goals
        ((with_reducible apply Step.mapGet); exact rfl; exact rfl; exact (get_old _ h8); exact h9; exact h10; exact un103; exact un3; exact zr141; exact rfl)
        rw [h12]
        simp only [Option.getD_some]
        (repeat' (first | (with_reducible refine AWo.cons ?_) | ((with_reducible refine Step.id ?_); first | ((with_reducible apply Step.move); exact rfl; exact rfl) | ((with_reducible apply Step.assign); exact rfl; exact rfl) | ((with_reducible apply Step.load); exact rfl; (focus (decide +kernel)); exact rfl; (focus (exact Rd.new rfl rfl))) | ((with_reducible apply Step.loadL (n := 4)); exact rfl; (focus (decide +kernel)); (focus (decide +kernel)); exact rfl; (focus (exact RdL.new rfl rfl)); exact rfl; exact rfl) | ((with_reducible apply Step.field (k := 2)); exact rfl; (focus (decide +kernel)); exact rfl) | ((with_reducible apply Step.field (k := 3)); exact rfl; (focus (decide +kernel)); exact rfl) | ((with_reducible apply Step.mulE); exact rfl; exact rfl; (focus (assumption)); (focus (omega)); exact rfl) | ((with_reducible apply Step.eql); exact rfl; exact rfl; exact rfl) | ((with_reducible apply Step.extract); exact rfl; exact rfl; exact rfl) | ((with_reducible apply Step.callR fit); exact rfl; exact Tryd.func102; exact rfl; exact rfl; exact (hC _))) | (with_reducible refine AWo.nil ?_) | ((with_reducible apply AW.seq)) | ((with_reducible apply Then.n)) | ((with_reducible apply AW.drawL fit); (focus (decide +kernel)))))
        all_goals
          (refine AW.retD (l := [(6, _), (7, _)]) (by repeat (first | exact trivial | (refine And.intro ⟨rfl, by (exact .bool _)⟩ ?_))) ?_; (repeat (first | refine Then.r ?_ | refine InBlk.r ?_)))
          exact ⟨_, rfl, fin [] _ (by unfold turnedB; rw [hup, htn]; rfl) (by rw [htn, Bool.or_true])⟩
  · have htn : tnB ⟨kw, kh, kg, ko, kt⟩ ⟨x, y, a, bb⟩ = false := by
      unfold tnB
      cases kt with
      | false => rfl
      | true => exact decide_eq_false fun h => v ⟨rfl, h⟩
    have hn : (upB ⟨kw, kh, kg, ko, kt⟩ ⟨x, y, a, bb⟩ || tnB ⟨kw, kh, kg, ko, kt⟩ ⟨x, y, a, bb⟩) = false := by rw [hup, htn]; rfl
    cases kt with
    | false =>
      by_cases u1 : kw = (a : Int)
      · have u2 : ¬ kh = (bb : Int) := fun h => u ⟨u1, h⟩
        (repeat (first | (with_reducible refine AWo.cons ?_) | ((with_reducible refine Step.id ?_); first | ((with_reducible apply Step.gdT); exact rfl; exact rfl; (focus ((simp only [decide_eq_true_eq, decide_eq_false_iff_not, Bool.not_eq_true', Bool.not_eq_false', Bool.not_true, Bool.not_false]; first | assumption | omega)))) | ((with_reducible apply Step.gdF); exact rfl; exact rfl; (focus (rfl))) | ((with_reducible apply Step.move); exact rfl; exact rfl) | ((with_reducible apply Step.assign); exact rfl; exact rfl) | ((with_reducible apply Step.load); exact rfl; (focus (decide +kernel)); exact rfl; (focus (first | exact Rd.new rfl rfl | exact Rd.old _ (by assumption)))) | ((with_reducible apply Step.loadL (n := 5)); exact rfl; (focus (decide +kernel)); (focus (decide +kernel)); exact rfl; (focus (exact RdL.old _ (by assumption))); exact rfl; exact rfl) | ((with_reducible apply Step.ix (s := 5)); exact rfl; (focus (assumption)); exact rfl; (focus (decide +kernel)); exact rfl; (focus (omega))) | ((with_reducible apply Step.field0); exact rfl; (focus (decide +kernel)); exact rfl) | ((with_reducible apply Step.field (k := 1)); exact rfl; (focus (decide +kernel)); exact rfl) | ((with_reducible apply Step.field (k := 2)); exact rfl; (focus (decide +kernel)); exact rfl) | ((with_reducible apply Step.field (k := 3)); exact rfl; (focus (decide +kernel)); exact rfl) | ((with_reducible apply Step.field (k := 4)); exact rfl; (focus (decide +kernel)); exact rfl) | ((with_reducible apply Step.eql); exact rfl; exact rfl; exact rfl) | ((with_reducible apply Step.nilp); exact rfl; exact rfl) | ((with_reducible apply Step.pickT); exact rfl; exact rfl; exact rfl; exact rfl; (focus ((simp only [decide_eq_true_eq, decide_eq_false_iff_not, Bool.not_eq_true', Bool.not_eq_false', Bool.not_true, Bool.not_false]; first | assumption | omega)))) | ((with_reducible apply Step.pickF); exact rfl; exact rfl; exact rfl; exact rfl; (focus (rfl))) | ((with_reducible apply Step.box 0); exact rfl; exact rfl; (focus (kernel_rfl)); exact rfl; (focus (first | (simp only [List.nil_append, List.cons_append, List.set_cons_zero, List.set_cons_succ, iv_set, bv_set, iv_rep, bv_rep]; done) | (simp only [List.nil_append, List.cons_append, List.set_cons_zero, List.set_cons_succ, iv_set, bv_set, iv_rep, bv_rep]; rfl) | rfl))) | ((with_reducible apply Step.alloc 1); exact rfl; exact ze99; exact rfl; (focus (first | (simp only [List.nil_append, List.cons_append, List.set_cons_zero, List.set_cons_succ, iv_set, bv_set, iv_rep, bv_rep]; done) | (simp only [List.nil_append, List.cons_append, List.set_cons_zero, List.set_cons_succ, iv_set, bv_set, iv_rep, bv_rep]; rfl) | rfl))) | ((with_reducible apply Step.storeA (k := 1) (n := 5)); exact rfl; exact rfl; exact rfl; exact rfl; (focus (decide +kernel)); exact rfl; (focus (kernel_rfl)); exact rfl; (focus (first | (simp only [List.nil_append, List.cons_append, List.set_cons_zero, List.set_cons_succ, iv_set, bv_set, iv_rep, bv_rep]; done) | (simp only [List.nil_append, List.cons_append, List.set_cons_zero, List.set_cons_succ, iv_set, bv_set, iv_rep, bv_rep]; rfl) | rfl)))) | (with_reducible refine AWo.nil ?_) | ((with_reducible apply AW.seq)) | ((with_reducible apply Then.n)) | ((with_reducible apply AW.regL)) | ((with_reducible apply AW.block)) | ((with_reducible apply AW.condF); exact rfl; (focus (first | rfl | (simp only [decide_eq_true_eq, decide_eq_false_iff_not, Bool.not_eq_true', Bool.not_eq_false', Bool.not_true, Bool.not_false]; first | assumption | omega))))))
        (refine AW.retD (l := [(6, _), (7, _)]) (by repeat (first | exact trivial | (refine And.intro ⟨rfl, by (exact .bool _)⟩ ?_))) ?_; (repeat (first | refine Then.r ?_ | refine InBlk.r ?_)))
        exact ⟨_, rfl, no hn⟩
      · (repeat (first | (with_reducible refine AWo.cons ?_) | ((with_reducible refine Step.id ?_); first | ((with_reducible apply Step.gdF); exact rfl; exact rfl; (focus (first | rfl | (simp only [decide_eq_true_eq, decide_eq_false_iff_not, Bool.not_eq_true', Bool.not_eq_false', Bool.not_true, Bool.not_false]; first | assumption | omega)))) | ((with_reducible apply Step.move); exact rfl; exact rfl) | ((with_reducible apply Step.assign); exact rfl; exact rfl) | ((with_reducible apply Step.load); exact rfl; (focus (decide +kernel)); exact rfl; (focus (first | exact Rd.new rfl rfl | exact Rd.old _ (by assumption)))) | ((with_reducible apply Step.loadL (n := 5)); exact rfl; (focus (decide +kernel)); (focus (decide +kernel)); exact rfl; (focus (exact RdL.old _ (by assumption))); exact rfl; exact rfl) | ((with_reducible apply Step.ix (s := 5)); exact rfl; (focus (assumption)); exact rfl; (focus (decide +kernel)); exact rfl; (focus (omega))) | ((with_reducible apply Step.field0); exact rfl; (focus (decide +kernel)); exact rfl) | ((with_reducible apply Step.field (k := 1)); exact rfl; (focus (decide +kernel)); exact rfl) | ((with_reducible apply Step.field (k := 2)); exact rfl; (focus (decide +kernel)); exact rfl) | ((with_reducible apply Step.field (k := 4)); exact rfl; (focus (decide +kernel)); exact rfl) | ((with_reducible apply Step.eql); exact rfl; exact rfl; exact rfl) | ((with_reducible apply Step.nilp); exact rfl; exact rfl) | ((with_reducible apply Step.pickF); exact rfl; exact rfl; exact rfl; exact rfl; (focus (first | rfl | (simp only [decide_eq_true_eq, decide_eq_false_iff_not, Bool.not_eq_true', Bool.not_eq_false', Bool.not_true, Bool.not_false]; first | assumption | omega)))) | ((with_reducible apply Step.box 0); exact rfl; exact rfl; (focus (kernel_rfl)); exact rfl; (focus (first | (simp only [List.nil_append, List.cons_append, List.set_cons_zero, List.set_cons_succ, iv_set, bv_set, iv_rep, bv_rep]; done) | (simp only [List.nil_append, List.cons_append, List.set_cons_zero, List.set_cons_succ, iv_set, bv_set, iv_rep, bv_rep]; rfl) | rfl))) | ((with_reducible apply Step.alloc 1); exact rfl; exact ze99; exact rfl; (focus (first | (simp only [List.nil_append, List.cons_append, List.set_cons_zero, List.set_cons_succ, iv_set, bv_set, iv_rep, bv_rep]; done) | (simp only [List.nil_append, List.cons_append, List.set_cons_zero, List.set_cons_succ, iv_set, bv_set, iv_rep, bv_rep]; rfl) | rfl))) | ((with_reducible apply Step.storeA (k := 1) (n := 5)); exact rfl; exact rfl; exact rfl; exact rfl; (focus (decide +kernel)); exact rfl; (focus (kernel_rfl)); exact rfl; (focus (first | (simp only [List.nil_append, List.cons_append, List.set_cons_zero, List.set_cons_succ, iv_set, bv_set, iv_rep, bv_rep]; done) | (simp only [List.nil_append, List.cons_append, List.set_cons_zero, List.set_cons_succ, iv_set, bv_set, iv_rep, bv_rep]; rfl) | rfl)))) | (with_reducible refine AWo.nil ?_) | ((with_reducible apply AW.seq)) | ((with_reducible apply Then.n)) | ((with_reducible apply AW.regL)) | ((with_reducible apply AW.block)) | ((with_reducible apply AW.condF); exact rfl; (focus (rfl)))))
        (refine AW.retD (l := [(6, _), (7, _)]) (by repeat (first | exact trivial | (refine And.intro ⟨rfl, by (exact .bool _)⟩ ?_))) ?_; (repeat (first | refine Then.r ?_ | refine InBlk.r ?_)))
        exact ⟨_, rfl, no hn⟩
    | true =>
      by_cases u1 : kw = (a : Int)
      · have u2 : ¬ kh = (bb : Int) := fun h => u ⟨u1, h⟩
        by_cases v1 : kw = (bb : Int)
        · have v2 : ¬ kh = (a : Int) := fun h => v ⟨rfl, v1, h⟩
          (repeat (first | (with_reducible refine AWo.cons ?_) | ((with_reducible refine Step.id ?_); first | ((with_reducible apply Step.gdT); exact rfl; exact rfl; (focus (first | rfl | (simp only [decide_eq_true_eq, decide_eq_false_iff_not, Bool.not_eq_true', Bool.not_eq_false', Bool.not_true, Bool.not_false]; first | assumption | omega)))) | ((with_reducible apply Step.move); exact rfl; exact rfl) | ((with_reducible apply Step.assign); exact rfl; exact rfl) | ((with_reducible apply Step.load); exact rfl; (focus (decide +kernel)); exact rfl; (focus (first | exact Rd.new rfl rfl | exact Rd.old _ (by assumption)))) | ((with_reducible apply Step.loadL (n := 5)); exact rfl; (focus (decide +kernel)); (focus (decide +kernel)); exact rfl; (focus (exact RdL.old _ (by assumption))); exact rfl; exact rfl) | ((with_reducible apply Step.ix (s := 5)); exact rfl; (focus (assumption)); exact rfl; (focus (decide +kernel)); exact rfl; (focus (omega))) | ((with_reducible apply Step.field0); exact rfl; (focus (decide +kernel)); exact rfl) | ((with_reducible apply Step.field (k := 1)); exact rfl; (focus (decide +kernel)); exact rfl) | ((with_reducible apply Step.field (k := 2)); exact rfl; (focus (decide +kernel)); exact rfl) | ((with_reducible apply Step.field (k := 3)); exact rfl; (focus (decide +kernel)); exact rfl) | ((with_reducible apply Step.field (k := 4)); exact rfl; (focus (decide +kernel)); exact rfl) | ((with_reducible apply Step.eql); exact rfl; exact rfl; exact rfl) | ((with_reducible apply Step.nilp); exact rfl; exact rfl) | ((with_reducible apply Step.pickT); exact rfl; exact rfl; exact rfl; exact rfl; (focus (first | rfl | (simp only [decide_eq_true_eq, decide_eq_false_iff_not, Bool.not_eq_true', Bool.not_eq_false', Bool.not_true, Bool.not_false]; first | assumption | omega)))) | ((with_reducible apply Step.box 0); exact rfl; exact rfl; (focus (kernel_rfl)); exact rfl; (focus (first | (simp only [List.nil_append, List.cons_append, List.set_cons_zero, List.set_cons_succ, iv_set, bv_set, iv_rep, bv_rep]; done) | (simp only [List.nil_append, List.cons_append, List.set_cons_zero, List.set_cons_succ, iv_set, bv_set, iv_rep, bv_rep]; rfl) | rfl))) | ((with_reducible apply Step.alloc 1); exact rfl; exact ze99; exact rfl; (focus (first | (simp only [List.nil_append, List.cons_append, List.set_cons_zero, List.set_cons_succ, iv_set, bv_set, iv_rep, bv_rep]; done) | (simp only [List.nil_append, List.cons_append, List.set_cons_zero, List.set_cons_succ, iv_set, bv_set, iv_rep, bv_rep]; rfl) | rfl))) | ((with_reducible apply Step.storeA (k := 1) (n := 5)); exact rfl; exact rfl; exact rfl; exact rfl; (focus (decide +kernel)); exact rfl; (focus (kernel_rfl)); exact rfl; (focus (first | (simp only [List.nil_append, List.cons_append, List.set_cons_zero, List.set_cons_succ, iv_set, bv_set, iv_rep, bv_rep]; done) | (simp only [List.nil_append, List.cons_append, List.set_cons_zero, List.set_cons_succ, iv_set, bv_set, iv_rep, bv_rep]; rfl) | rfl)))) | (with_reducible refine AWo.nil ?_) | ((with_reducible apply AW.seq)) | ((with_reducible apply Then.n)) | ((with_reducible apply AW.regL)) | ((with_reducible apply AW.block)) | ((with_reducible apply AW.condF); exact rfl; (focus ((simp only [decide_eq_true_eq, decide_eq_false_iff_not, Bool.not_eq_true', Bool.not_eq_false', Bool.not_true, Bool.not_false]; first | assumption | omega))))))
          (refine AW.retD (l := [(6, _), (7, _)]) (by repeat (first | exact trivial | (refine And.intro ⟨rfl, by (exact .bool _)⟩ ?_))) ?_; (repeat (first | refine Then.r ?_ | refine InBlk.r ?_)))
          exact ⟨_, rfl, no hn⟩
        · (repeat (first | (with_reducible refine AWo.cons ?_) | ((with_reducible refine Step.id ?_); first | ((with_reducible apply Step.gdT); exact rfl; exact rfl; (focus (first | rfl | (simp only [decide_eq_true_eq, decide_eq_false_iff_not, Bool.not_eq_true', Bool.not_eq_false', Bool.not_true, Bool.not_false]; first | assumption | omega)))) | ((with_reducible apply Step.gdF); exact rfl; exact rfl; (focus ((simp only [decide_eq_true_eq, decide_eq_false_iff_not, Bool.not_eq_true', Bool.not_eq_false', Bool.not_true, Bool.not_false]; first | assumption | omega)))) | ((with_reducible apply Step.move); exact rfl; exact rfl) | ((with_reducible apply Step.assign); exact rfl; exact rfl) | ((with_reducible apply Step.load); exact rfl; (focus (decide +kernel)); exact rfl; (focus (first | exact Rd.new rfl rfl | exact Rd.old _ (by assumption)))) | ((with_reducible apply Step.loadL (n := 5)); exact rfl; (focus (decide +kernel)); (focus (decide +kernel)); exact rfl; (focus (exact RdL.old _ (by assumption))); exact rfl; exact rfl) | ((with_reducible apply Step.ix (s := 5)); exact rfl; (focus (assumption)); exact rfl; (focus (decide +kernel)); exact rfl; (focus (omega))) | ((with_reducible apply Step.field0); exact rfl; (focus (decide +kernel)); exact rfl) | ((with_reducible apply Step.field (k := 1)); exact rfl; (focus (decide +kernel)); exact rfl) | ((with_reducible apply Step.field (k := 2)); exact rfl; (focus (decide +kernel)); exact rfl) | ((with_reducible apply Step.field (k := 3)); exact rfl; (focus (decide +kernel)); exact rfl) | ((with_reducible apply Step.field (k := 4)); exact rfl; (focus (decide +kernel)); exact rfl) | ((with_reducible apply Step.eql); exact rfl; exact rfl; exact rfl) | ((with_reducible apply Step.nilp); exact rfl; exact rfl) | ((with_reducible apply Step.pickT); exact rfl; exact rfl; exact rfl; exact rfl; (focus (first | rfl | (simp only [decide_eq_true_eq, decide_eq_false_iff_not, Bool.not_eq_true', Bool.not_eq_false', Bool.not_true, Bool.not_false]; first | assumption | omega)))) | ((with_reducible apply Step.pickF); exact rfl; exact rfl; exact rfl; exact rfl; (focus ((simp only [decide_eq_true_eq, decide_eq_false_iff_not, Bool.not_eq_true', Bool.not_eq_false', Bool.not_true, Bool.not_false]; first | assumption | omega)))) | ((with_reducible apply Step.box 0); exact rfl; exact rfl; (focus (kernel_rfl)); exact rfl; (focus (first | (simp only [List.nil_append, List.cons_append, List.set_cons_zero, List.set_cons_succ, iv_set, bv_set, iv_rep, bv_rep]; done) | (simp only [List.nil_append, List.cons_append, List.set_cons_zero, List.set_cons_succ, iv_set, bv_set, iv_rep, bv_rep]; rfl) | rfl))) | ((with_reducible apply Step.alloc 1); exact rfl; exact ze99; exact rfl; (focus (first | (simp only [List.nil_append, List.cons_append, List.set_cons_zero, List.set_cons_succ, iv_set, bv_set, iv_rep, bv_rep]; done) | (simp only [List.nil_append, List.cons_append, List.set_cons_zero, List.set_cons_succ, iv_set, bv_set, iv_rep, bv_rep]; rfl) | rfl))) | ((with_reducible apply Step.storeA (k := 1) (n := 5)); exact rfl; exact rfl; exact rfl; exact rfl; (focus (decide +kernel)); exact rfl; (focus (kernel_rfl)); exact rfl; (focus (first | (simp only [List.nil_append, List.cons_append, List.set_cons_zero, List.set_cons_succ, iv_set, bv_set, iv_rep, bv_rep]; done) | (simp only [List.nil_append, List.cons_append, List.set_cons_zero, List.set_cons_succ, iv_set, bv_set, iv_rep, bv_rep]; rfl) | rfl)))) | (with_reducible refine AWo.nil ?_) | ((with_reducible apply AW.seq)) | ((with_reducible apply Then.n)) | ((with_reducible apply AW.regL)) | ((with_reducible apply AW.block)) | ((with_reducible apply AW.condF); exact rfl; (focus (first | rfl | (simp only [decide_eq_true_eq, decide_eq_false_iff_not, Bool.not_eq_true', Bool.not_eq_false', Bool.not_true, Bool.not_false]; first | assumption | omega))))))
          (refine AW.retD (l := [(6, _), (7, _)]) (by repeat (first | exact trivial | (refine And.intro ⟨rfl, by (exact .bool _)⟩ ?_))) ?_; (repeat (first | refine Then.r ?_ | refine InBlk.r ?_)))
          exact ⟨_, rfl, no hn⟩
      · by_cases v1 : kw = (bb : Int)
        · have v2 : ¬ kh = (a : Int) := fun h => v ⟨rfl, v1, h⟩
          (repeat (first | (with_reducible refine AWo.cons ?_) | ((with_reducible refine Step.id ?_); first | ((with_reducible apply Step.gdT); exact rfl; exact rfl; (focus (first | rfl | (simp only [decide_eq_true_eq, decide_eq_false_iff_not, Bool.not_eq_true', Bool.not_eq_false', Bool.not_true, Bool.not_false]; first | assumption | omega)))) | ((with_reducible apply Step.gdF); exact rfl; exact rfl; (focus ((simp only [decide_eq_true_eq, decide_eq_false_iff_not, Bool.not_eq_true', Bool.not_eq_false', Bool.not_true, Bool.not_false]; first | assumption | omega)))) | ((with_reducible apply Step.move); exact rfl; exact rfl) | ((with_reducible apply Step.assign); exact rfl; exact rfl) | ((with_reducible apply Step.load); exact rfl; (focus (decide +kernel)); exact rfl; (focus (first | exact Rd.new rfl rfl | exact Rd.old _ (by assumption)))) | ((with_reducible apply Step.loadL (n := 5)); exact rfl; (focus (decide +kernel)); (focus (decide +kernel)); exact rfl; (focus (exact RdL.old _ (by assumption))); exact rfl; exact rfl) | ((with_reducible apply Step.ix (s := 5)); exact rfl; (focus (assumption)); exact rfl; (focus (decide +kernel)); exact rfl; (focus (omega))) | ((with_reducible apply Step.field0); exact rfl; (focus (decide +kernel)); exact rfl) | ((with_reducible apply Step.field (k := 1)); exact rfl; (focus (decide +kernel)); exact rfl) | ((with_reducible apply Step.field (k := 2)); exact rfl; (focus (decide +kernel)); exact rfl) | ((with_reducible apply Step.field (k := 3)); exact rfl; (focus (decide +kernel)); exact rfl) | ((with_reducible apply Step.field (k := 4)); exact rfl; (focus (decide +kernel)); exact rfl) | ((with_reducible apply Step.eql); exact rfl; exact rfl; exact rfl) | ((with_reducible apply Step.nilp); exact rfl; exact rfl) | ((with_reducible apply Step.pickT); exact rfl; exact rfl; exact rfl; exact rfl; (focus (first | rfl | (simp only [decide_eq_true_eq, decide_eq_false_iff_not, Bool.not_eq_true', Bool.not_eq_false', Bool.not_true, Bool.not_false]; first | assumption | omega)))) | ((with_reducible apply Step.pickF); exact rfl; exact rfl; exact rfl; exact rfl; (focus ((simp only [decide_eq_true_eq, decide_eq_false_iff_not, Bool.not_eq_true', Bool.not_eq_false', Bool.not_true, Bool.not_false]; first | assumption | omega)))) | ((with_reducible apply Step.box 0); exact rfl; exact rfl; (focus (kernel_rfl)); exact rfl; (focus (first | (simp only [List.nil_append, List.cons_append, List.set_cons_zero, List.set_cons_succ, iv_set, bv_set, iv_rep, bv_rep]; done) | (simp only [List.nil_append, List.cons_append, List.set_cons_zero, List.set_cons_succ, iv_set, bv_set, iv_rep, bv_rep]; rfl) | rfl))) | ((with_reducible apply Step.alloc 1); exact rfl; exact ze99; exact rfl; (focus (first | (simp only [List.nil_append, List.cons_append, List.set_cons_zero, List.set_cons_succ, iv_set, bv_set, iv_rep, bv_rep]; done) | (simp only [List.nil_append, List.cons_append, List.set_cons_zero, List.set_cons_succ, iv_set, bv_set, iv_rep, bv_rep]; rfl) | rfl))) | ((with_reducible apply Step.storeA (k := 1) (n := 5)); exact rfl; exact rfl; exact rfl; exact rfl; (focus (decide +kernel)); exact rfl; (focus (kernel_rfl)); exact rfl; (focus (first | (simp only [List.nil_append, List.cons_append, List.set_cons_zero, List.set_cons_succ, iv_set, bv_set, iv_rep, bv_rep]; done) | (simp only [List.nil_append, List.cons_append, List.set_cons_zero, List.set_cons_succ, iv_set, bv_set, iv_rep, bv_rep]; rfl) | rfl)))) | (with_reducible refine AWo.nil ?_) | ((with_reducible apply AW.seq)) | ((with_reducible apply Then.n)) | ((with_reducible apply AW.regL)) | ((with_reducible apply AW.block)) | ((with_reducible apply AW.condF); exact rfl; (focus (first | rfl | (simp only [decide_eq_true_eq, decide_eq_false_iff_not, Bool.not_eq_true', Bool.not_eq_false', Bool.not_true, Bool.not_false]; first | assumption | omega))))))
          (refine AW.retD (l := [(6, _), (7, _)]) (by repeat (first | exact trivial | (refine And.intro ⟨rfl, by (exact .bool _)⟩ ?_))) ?_; (repeat (first | refine Then.r ?_ | refine InBlk.r ?_)))
          exact ⟨_, rfl, no hn⟩
        · (repeat (first | (with_reducible refine AWo.cons ?_) | ((with_reducible refine Step.id ?_); first | ((with_reducible apply Step.gdT); exact rfl; exact rfl; (focus (rfl))) | ((with_reducible apply Step.gdF); exact rfl; exact rfl; (focus ((simp only [decide_eq_true_eq, decide_eq_false_iff_not, Bool.not_eq_true', Bool.not_eq_false', Bool.not_true, Bool.not_false]; first | assumption | omega)))) | ((with_reducible apply Step.move); exact rfl; exact rfl) | ((with_reducible apply Step.assign); exact rfl; exact rfl) | ((with_reducible apply Step.load); exact rfl; (focus (decide +kernel)); exact rfl; (focus (first | exact Rd.new rfl rfl | exact Rd.old _ (by assumption)))) | ((with_reducible apply Step.loadL (n := 5)); exact rfl; (focus (decide +kernel)); (focus (decide +kernel)); exact rfl; (focus (exact RdL.old _ (by assumption))); exact rfl; exact rfl) | ((with_reducible apply Step.ix (s := 5)); exact rfl; (focus (assumption)); exact rfl; (focus (decide +kernel)); exact rfl; (focus (omega))) | ((with_reducible apply Step.field0); exact rfl; (focus (decide +kernel)); exact rfl) | ((with_reducible apply Step.field (k := 1)); exact rfl; (focus (decide +kernel)); exact rfl) | ((with_reducible apply Step.field (k := 2)); exact rfl; (focus (decide +kernel)); exact rfl) | ((with_reducible apply Step.field (k := 3)); exact rfl; (focus (decide +kernel)); exact rfl) | ((with_reducible apply Step.field (k := 4)); exact rfl; (focus (decide +kernel)); exact rfl) | ((with_reducible apply Step.eql); exact rfl; exact rfl; exact rfl) | ((with_reducible apply Step.nilp); exact rfl; exact rfl) | ((with_reducible apply Step.pickT); exact rfl; exact rfl; exact rfl; exact rfl; (focus (rfl))) | ((with_reducible apply Step.pickF); exact rfl; exact rfl; exact rfl; exact rfl; (focus ((simp only [decide_eq_true_eq, decide_eq_false_iff_not, Bool.not_eq_true', Bool.not_eq_false', Bool.not_true, Bool.not_false]; first | assumption | omega)))) | ((with_reducible apply Step.box 0); exact rfl; exact rfl; (focus (kernel_rfl)); exact rfl; (focus (first | (simp only [List.nil_append, List.cons_append, List.set_cons_zero, List.set_cons_succ, iv_set, bv_set, iv_rep, bv_rep]; done) | (simp only [List.nil_append, List.cons_append, List.set_cons_zero, List.set_cons_succ, iv_set, bv_set, iv_rep, bv_rep]; rfl) | rfl))) | ((with_reducible apply Step.alloc 1); exact rfl; exact ze99; exact rfl; (focus (first | (simp only [List.nil_append, List.cons_append, List.set_cons_zero, List.set_cons_succ, iv_set, bv_set, iv_rep, bv_rep]; done) | (simp only [List.nil_append, List.cons_append, List.set_cons_zero, List.set_cons_succ, iv_set, bv_set, iv_rep, bv_rep]; rfl) | rfl))) | ((with_reducible apply Step.storeA (k := 1) (n := 5)); exact rfl; exact rfl; exact rfl; exact rfl; (focus (decide +kernel)); exact rfl; (focus (kernel_rfl)); exact rfl; (focus (first | (simp only [List.nil_append, List.cons_append, List.set_cons_zero, List.set_cons_succ, iv_set, bv_set, iv_rep, bv_rep]; done) | (simp only [List.nil_append, List.cons_append, List.set_cons_zero, List.set_cons_succ, iv_set, bv_set, iv_rep, bv_rep]; rfl) | rfl)))) | (with_reducible refine AWo.nil ?_) | ((with_reducible apply AW.seq)) | ((with_reducible apply Then.n)) | ((with_reducible apply AW.regL)) | ((with_reducible apply AW.block)) | ((with_reducible apply AW.condF); exact rfl; (focus (rfl)))))
          (refine AW.retD (l := [(6, _), (7, _)]) (by repeat (first | exact trivial | (refine And.intro ⟨rfl, by (exact .bool _)⟩ ?_))) ?_; (repeat (first | refine Then.r ?_ | refine InBlk.r ?_)))
          exact ⟨_, rfl, no hn⟩
end Go.Proofs.YtedbjmgchfgabaaDoor.Abs
namespace Go.Proofs.YtedbjmgchfgabaaDoor.Abs
set_option linter.unusedSimpArgs false
set_option linter.unusedVariables false
open Go.RowKit
open Go.Proofs.YtedbjmgchfgabaaDoor.Sim
open Go.Proofs
theorem BoardAt.lt {m : AM} {p : Nat} {B : Brd} {K : List Kd} (h : BoardAt m p B K) : p < m.length := by
  obtain ⟨b, h1, _⟩ := h.w
  exact (List.getElem?_eq_some_iff.1 h1).1
set_option maxHeartbeats 4000000 in
set_option maxRecDepth 100000 in
theorem leaf_ok {m : AM} {p : Nat} {B : Brd} {K : List Kd} (hB : BoardAt m p B K) (hg : goodB B K = true) {r : R4} (hr : r.ok (bw B) (bh B)) :
    ACall Tryd.prog 52 #[.pointer (some ⟨p, 0, none⟩), r.rc.v] m (Ret (.int .i64 (leafM B K r)) m) := by
  have hp := hB.lt
  have hf := fun T k hk => fits_ok (hB.old T) hg (k := k) hk hr
  have hkl : K.length ≤ 12 := by simp only [goodB, kindsB, Bool.and_eq_true, decide_eq_true_eq] at hg; exact hg.2.1
  obtain ⟨_, ⟨kv, k1, A, O, sl, la, rd⟩, _, _, _⟩ := hB
  obtain ⟨q', c', rfl⟩ := sl.shape
  obtain ⟨x, y, a, b⟩ := r
  have r0 : ∀ T : AM, RdL (m ++ (some { cells := [.int .i64 (x : Nat), .int .i64 (y : Nat), .int .i64 (a : Nat), .int .i64 (b : Nat)] } :: T)) (m.length + 0) 0 [.int .i64 (x : Nat), .int .i64 (y : Nat), .int .i64 (a : Nat), .int .i64 (b : Nat)] := fun T => RdL.new rfl rfl
  change ACall Tryd.prog 52 #[.pointer (some ⟨p, 0, none⟩), .agg #[.int .i64 (x : Nat), .int .i64 (y : Nat), .int .i64 (a : Nat), .int .i64 (b : Nat)]] m _
  change ∀ T k, k < K.length → ACall Tryd.prog 78 #[.pointer (some ⟨p, 0, none⟩), .int .i64 (k : Nat), .agg #[.int .i64 (x : Nat), .int .i64 (y : Nat), .int .i64 (a : Nat), .int .i64 (b : Nat)]] (m ++ T) _ at hf
  generalize (⟨x, y, a, b⟩ : R4) = r at hf ⊢
  refine ACall.start Tryd.func52 rfl rfl ?_
  (repeat (first | (with_reducible refine AWo.cons ?_) | ((with_reducible refine Step.id ?_); first | ((with_reducible apply Step.move); exact rfl; exact rfl) | ((with_reducible apply Step.assign); exact rfl; exact rfl) | ((with_reducible apply Step.load); exact rfl; (focus (decide +kernel)); exact rfl; (focus (exact Rd.old _ (by assumption)))) | ((with_reducible apply Step.field (k := 1)); exact rfl; (focus (decide +kernel)); exact rfl) | ((with_reducible apply Step.len); exact rfl; (focus (assumption)); (focus (decide +kernel)); exact rfl) | ((with_reducible apply Step.nilp); exact rfl; exact rfl) | ((with_reducible apply Step.box 0); exact rfl; exact rfl; (focus (kernel_rfl)); exact rfl; (focus (first | (simp only [List.nil_append, List.cons_append, List.set_cons_zero, List.set_cons_succ, iv_set, bv_set, iv_rep, bv_rep]; done) | (simp only [List.nil_append, List.cons_append, List.set_cons_zero, List.set_cons_succ, iv_set, bv_set, iv_rep, bv_rep]; rfl) | rfl)))) | (with_reducible refine AWo.nil ?_) | ((with_reducible apply AW.seq)) | ((with_reducible apply Then.n)) | ((with_reducible apply AW.regL)) | ((with_reducible apply AW.block))))
  refine AW.loopT (fun n t L => ∃ i : Nat, n = K.length - i ∧ i ≤ K.length ∧ L = [some { cells := [.int .i64 (x : Nat), .int .i64 (y : Nat), .int .i64 (a : Nat), .int .i64 (b : Nat)] }] ∧
    t = [(0, .pointer (some ⟨p, 0, none⟩)), (3, .pointer (some ⟨m.length + 0, 0, none⟩)), (5, .int .i64 (leafN B K r i)), (13, .slice q' K.length c'), (14, .int .i64 (K.length : Nat)), (15, .int .i64 (i : Nat))])
    ⟨_, _, _, (Or.inl ⟨rfl, (by repeat (first | exact trivial | (refine And.intro rfl ?_)))⟩), 0, rfl, Nat.zero_le _, rfl, rfl⟩ ?_
  rintro n t L ⟨i, rfl, hi, rfl, rfl⟩
  rcases Nat.lt_or_ge i K.length with hlt | hge
  · have rk := rd i hlt
    have hfi := fun T => hf T i hlt
    have hst : leafN B K r (i + 1) = if okB B (K.getD i default) r = true ∧ leafN B K r i < (K.getD i default).worth then (K.getD i default).worth else leafN B K r i := by rw [← fitsM_some]; rfl
    generalize K.getD i default = kd at *
    obtain ⟨kw, kh, kg, ko, kt⟩ := kd
    simp only [Kd.cells] at rk
    simp only at hst
    have wl : Low m.length (.slice q' K.length c') := Low.of_sl sl la
    by_cases h1 : ko ≤ leafN B K r i
    · have e : leafN B K r (i + 1) = leafN B K r i := by rw [hst, if_neg (by omega)]
      (repeat (first | (with_reducible refine AWo.cons ?_) | ((with_reducible refine Step.id ?_); first | ((with_reducible apply Step.move); exact rfl; exact rfl) | ((with_reducible apply Step.assign); exact rfl; exact rfl) | ((with_reducible apply Step.load); exact rfl; (focus (decide +kernel)); exact rfl; (focus (exact Rd.new rfl rfl))) | ((with_reducible apply Step.loadL (n := 5)); exact rfl; (focus (decide +kernel)); (focus (decide +kernel)); exact rfl; (focus (exact RdL.old _ (by assumption))); exact rfl; exact rfl) | ((with_reducible apply Step.ix (s := 5)); exact rfl; (focus (assumption)); exact rfl; (focus (decide +kernel)); exact rfl; (focus (omega))) | ((with_reducible apply Step.field (k := 3)); exact rfl; (focus (decide +kernel)); exact rfl) | ((with_reducible apply Step.add); exact rfl; exact rfl; (focus (omega)); exact rfl) | ((with_reducible apply Step.lss); exact rfl; exact rfl; exact rfl) | ((with_reducible apply Step.leq); exact rfl; exact rfl; exact rfl) | ((with_reducible apply Step.alloc 1); exact rfl; exact ze99; exact rfl; (focus (first | (simp only [List.nil_append, List.cons_append, List.set_cons_zero, List.set_cons_succ, iv_set, bv_set, iv_rep, bv_rep]; done) | (simp only [List.nil_append, List.cons_append, List.set_cons_zero, List.set_cons_succ, iv_set, bv_set, iv_rep, bv_rep]; rfl) | rfl))) | ((with_reducible apply Step.storeA (k := 1) (n := 5)); exact rfl; exact rfl; exact rfl; exact rfl; (focus (decide +kernel)); exact rfl; (focus (kernel_rfl)); exact rfl; (focus (first | (simp only [List.nil_append, List.cons_append, List.set_cons_zero, List.set_cons_succ, iv_set, bv_set, iv_rep, bv_rep]; done) | (simp only [List.nil_append, List.cons_append, List.set_cons_zero, List.set_cons_succ, iv_set, bv_set, iv_rep, bv_rep]; rfl) | rfl)))) | (with_reducible refine AWo.nil ?_) | ((with_reducible apply AW.seq)) | ((with_reducible apply Then.n)) | ((with_reducible apply AW.regL)) | ((with_reducible apply AW.block)) | ((with_reducible apply AW.exit)) | ((with_reducible apply InBlk.hit)) | ((with_reducible apply Then.e)) | ((with_reducible apply AW.skip)) | ((with_reducible apply AW.condT); exact rfl; (focus ((simp only [decide_eq_true_eq, decide_eq_false_iff_not, Bool.not_eq_true', Bool.not_eq_false', Bool.not_true, Bool.not_false]; first | assumption | omega))))))
      exact ⟨_, [(0, .pointer (some ⟨p, 0, none⟩)), (3, .pointer (some ⟨m.length + 0, 0, none⟩)), (5, .int .i64 (leafN B K r i)), (13, .slice q' K.length c'), (14, .int .i64 (K.length : Nat)), (15, .int .i64 (i + 1 : Nat))], [some { cells := [.int .i64 (x : Nat), .int .i64 (y : Nat), .int .i64 (a : Nat), .int .i64 (b : Nat)] }], by omega, (Back.trim rfl rfl (by repeat (first | exact CellsOk.nil | refine CellsOk.cons (by (intro v hv; simp at hv; first | (subst hv; rfl) | (rcases hv with rfl | rfl <;> rfl) | (rcases hv with rfl | rfl | rfl <;> rfl) | (rcases hv with rfl | rfl | rfl | rfl <;> rfl))) ?_)) (by repeat (first | exact trivial | (refine And.intro ⟨rfl, by (first | exact Low.rid (by assumption) (by simp) | exact .int _ _ | exact .ptr _ _ (by first | (simp; done) | omega | (simp; omega)))⟩ ?_)))), i + 1, rfl, by omega, rfl, by rw [e]⟩
    · cases h2 : okB B ⟨kw, kh, kg, ko, kt⟩ r with
      | true =>
        have e : leafN B K r (i + 1) = ko := by rw [hst, if_pos ⟨h2, by omega⟩]
        rw [h2] at hfi
        (repeat (first | (with_reducible refine AWo.cons ?_) | ((with_reducible refine Step.id ?_); first | ((with_reducible apply Step.move); exact rfl; exact rfl) | ((with_reducible apply Step.assign); exact rfl; exact rfl) | ((with_reducible apply Step.load); exact rfl; (focus (decide +kernel)); exact rfl; (focus (exact Rd.new rfl rfl))) | ((with_reducible apply Step.loadL (n := 4)); exact rfl; (focus (decide +kernel)); (focus (decide +kernel)); exact rfl; (focus (exact RdL.new rfl rfl)); exact rfl; exact rfl) | ((with_reducible apply Step.loadL (n := 5)); exact rfl; (focus (decide +kernel)); (focus (decide +kernel)); exact rfl; (focus (exact RdL.old _ (by assumption))); exact rfl; exact rfl) | ((with_reducible apply Step.ix (s := 5)); exact rfl; (focus (assumption)); exact rfl; (focus (decide +kernel)); exact rfl; (focus (omega))) | ((with_reducible apply Step.field (k := 3)); exact rfl; (focus (decide +kernel)); exact rfl) | ((with_reducible apply Step.add); exact rfl; exact rfl; (focus (omega)); exact rfl) | ((with_reducible apply Step.lss); exact rfl; exact rfl; exact rfl) | ((with_reducible apply Step.leq); exact rfl; exact rfl; exact rfl) | ((with_reducible apply Step.extract); exact rfl; exact rfl; exact rfl) | ((with_reducible apply Step.callR fit); exact rfl; exact Tryd.func78; exact rfl; exact rfl; exact (hfi _)) | ((with_reducible apply Step.alloc 1); exact rfl; exact ze99; exact rfl; (focus (first | (simp only [List.nil_append, List.cons_append, List.set_cons_zero, List.set_cons_succ, iv_set, bv_set, iv_rep, bv_rep]; done) | (simp only [List.nil_append, List.cons_append, List.set_cons_zero, List.set_cons_succ, iv_set, bv_set, iv_rep, bv_rep]; rfl) | rfl))) | ((with_reducible apply Step.storeA (k := 1) (n := 5)); exact rfl; exact rfl; exact rfl; exact rfl; (focus (decide +kernel)); exact rfl; (focus (kernel_rfl)); exact rfl; (focus (first | (simp only [List.nil_append, List.cons_append, List.set_cons_zero, List.set_cons_succ, iv_set, bv_set, iv_rep, bv_rep]; done) | (simp only [List.nil_append, List.cons_append, List.set_cons_zero, List.set_cons_succ, iv_set, bv_set, iv_rep, bv_rep]; rfl) | rfl)))) | (with_reducible refine AWo.nil ?_) | ((with_reducible apply AW.seq)) | ((with_reducible apply Then.n)) | ((with_reducible apply AW.regL)) | ((with_reducible apply AW.block)) | ((with_reducible apply InBlk.n)) | ((with_reducible apply AW.skip)) | ((with_reducible apply AW.condT); exact rfl; (focus (first | rfl | (simp only [decide_eq_true_eq, decide_eq_false_iff_not, Bool.not_eq_true', Bool.not_eq_false', Bool.not_true, Bool.not_false]; first | assumption | omega)))) | ((with_reducible apply AW.condF); exact rfl; (focus ((simp only [decide_eq_true_eq, decide_eq_false_iff_not, Bool.not_eq_true', Bool.not_eq_false', Bool.not_true, Bool.not_false]; first | assumption | omega))))))
        exact ⟨_, [(0, .pointer (some ⟨p, 0, none⟩)), (3, .pointer (some ⟨m.length + 0, 0, none⟩)), (5, .int .i64 ko), (13, .slice q' K.length c'), (14, .int .i64 (K.length : Nat)), (15, .int .i64 (i + 1 : Nat))], [some { cells := [.int .i64 (x : Nat), .int .i64 (y : Nat), .int .i64 (a : Nat), .int .i64 (b : Nat)] }], by omega, (Back.trim rfl rfl (by repeat (first | exact CellsOk.nil | refine CellsOk.cons (by (intro v hv; simp at hv; first | (subst hv; rfl) | (rcases hv with rfl | rfl <;> rfl) | (rcases hv with rfl | rfl | rfl <;> rfl) | (rcases hv with rfl | rfl | rfl | rfl <;> rfl))) ?_)) (by repeat (first | exact trivial | (refine And.intro ⟨rfl, by (first | exact Low.rid (by assumption) (by simp) | exact .int _ _ | exact .ptr _ _ (by first | (simp; done) | omega | (simp; omega)))⟩ ?_)))), i + 1, rfl, by omega, rfl, by rw [e]⟩
      | false =>
        have e : leafN B K r (i + 1) = leafN B K r i := by rw [hst, if_neg (by simp [h2])]
        rw [h2] at hfi
        (repeat (first | (with_reducible refine AWo.cons ?_) | ((with_reducible refine Step.id ?_); first | ((with_reducible apply Step.move); exact rfl; exact rfl) | ((with_reducible apply Step.assign); exact rfl; exact rfl) | ((with_reducible apply Step.load); exact rfl; (focus (decide +kernel)); exact rfl; (focus (exact Rd.new rfl rfl))) | ((with_reducible apply Step.loadL (n := 4)); exact rfl; (focus (decide +kernel)); (focus (decide +kernel)); exact rfl; (focus (exact RdL.new rfl rfl)); exact rfl; exact rfl) | ((with_reducible apply Step.loadL (n := 5)); exact rfl; (focus (decide +kernel)); (focus (decide +kernel)); exact rfl; (focus (exact RdL.old _ (by assumption))); exact rfl; exact rfl) | ((with_reducible apply Step.ix (s := 5)); exact rfl; (focus (assumption)); exact rfl; (focus (decide +kernel)); exact rfl; (focus (omega))) | ((with_reducible apply Step.field (k := 3)); exact rfl; (focus (decide +kernel)); exact rfl) | ((with_reducible apply Step.add); exact rfl; exact rfl; (focus (omega)); exact rfl) | ((with_reducible apply Step.lss); exact rfl; exact rfl; exact rfl) | ((with_reducible apply Step.leq); exact rfl; exact rfl; exact rfl) | ((with_reducible apply Step.extract); exact rfl; exact rfl; exact rfl) | ((with_reducible apply Step.callR fit); exact rfl; exact Tryd.func78; exact rfl; exact rfl; exact (hfi _)) | ((with_reducible apply Step.alloc 1); exact rfl; exact ze99; exact rfl; (focus (first | (simp only [List.nil_append, List.cons_append, List.set_cons_zero, List.set_cons_succ, iv_set, bv_set, iv_rep, bv_rep]; done) | (simp only [List.nil_append, List.cons_append, List.set_cons_zero, List.set_cons_succ, iv_set, bv_set, iv_rep, bv_rep]; rfl) | rfl))) | ((with_reducible apply Step.storeA (k := 1) (n := 5)); exact rfl; exact rfl; exact rfl; exact rfl; (focus (decide +kernel)); exact rfl; (focus (kernel_rfl)); exact rfl; (focus (first | (simp only [List.nil_append, List.cons_append, List.set_cons_zero, List.set_cons_succ, iv_set, bv_set, iv_rep, bv_rep]; done) | (simp only [List.nil_append, List.cons_append, List.set_cons_zero, List.set_cons_succ, iv_set, bv_set, iv_rep, bv_rep]; rfl) | rfl)))) | (with_reducible refine AWo.nil ?_) | ((with_reducible apply AW.seq)) | ((with_reducible apply Then.n)) | ((with_reducible apply AW.regL)) | ((with_reducible apply AW.block)) | ((with_reducible apply InBlk.n)) | ((with_reducible apply AW.skip)) | ((with_reducible apply AW.condT); exact rfl; (focus ((simp only [decide_eq_true_eq, decide_eq_false_iff_not, Bool.not_eq_true', Bool.not_eq_false', Bool.not_true, Bool.not_false]; first | assumption | omega)))) | ((with_reducible apply AW.condF); exact rfl; (focus (first | rfl | (simp only [decide_eq_true_eq, decide_eq_false_iff_not, Bool.not_eq_true', Bool.not_eq_false', Bool.not_true, Bool.not_false]; first | assumption | omega))))))
        exact ⟨_, [(0, .pointer (some ⟨p, 0, none⟩)), (3, .pointer (some ⟨m.length + 0, 0, none⟩)), (5, .int .i64 (leafN B K r i)), (13, .slice q' K.length c'), (14, .int .i64 (K.length : Nat)), (15, .int .i64 (i + 1 : Nat))], [some { cells := [.int .i64 (x : Nat), .int .i64 (y : Nat), .int .i64 (a : Nat), .int .i64 (b : Nat)] }], by omega, (Back.trim rfl rfl (by repeat (first | exact CellsOk.nil | refine CellsOk.cons (by (intro v hv; simp at hv; first | (subst hv; rfl) | (rcases hv with rfl | rfl <;> rfl) | (rcases hv with rfl | rfl | rfl <;> rfl) | (rcases hv with rfl | rfl | rfl | rfl <;> rfl))) ?_)) (by repeat (first | exact trivial | (refine And.intro ⟨rfl, by (first | exact Low.rid (by assumption) (by simp) | exact .int _ _ | exact .ptr _ _ (by first | (simp; done) | omega | (simp; omega)))⟩ ?_)))), i + 1, rfl, by omega, rfl, by rw [e]⟩
  · obtain rfl : i = K.length := by omega
    (repeat (first | (with_reducible refine AWo.cons ?_) | ((with_reducible refine Step.id ?_); first | ((with_reducible apply Step.move); exact rfl; exact rfl) | ((with_reducible apply Step.assign); exact rfl; exact rfl) | ((with_reducible apply Step.lss); exact rfl; exact rfl; exact rfl)) | (with_reducible refine AWo.nil ?_) | ((with_reducible apply AW.seq)) | ((with_reducible apply Then.n)) | ((with_reducible apply AW.regL)) | ((with_reducible apply AW.exit)) | ((with_reducible apply InBlk.hit)) | ((with_reducible apply Then.e)) | ((with_reducible apply AW.condF); exact rfl; (focus ((simp only [decide_eq_true_eq, decide_eq_false_iff_not, Bool.not_eq_true', Bool.not_eq_false', Bool.not_true, Bool.not_false]; first | assumption | omega))))))
    (refine AW.retD (l := [(4, _)]) (by repeat (first | exact trivial | (refine And.intro ⟨rfl, by (exact .int _ _)⟩ ?_))) ?_; (repeat (first | refine Then.r ?_ | refine InBlk.r ?_)))
    exact ⟨_, rfl, rfl, rfl⟩
end Go.Proofs.YtedbjmgchfgabaaDoor.Abs
namespace Go.Proofs.YtedbjmgchfgabaaDoor.Abs
set_option linter.unusedSimpArgs false
set_option linter.unusedVariables false
open Go.RowKit
open Go.Proofs.YtedbjmgchfgabaaDoor.Sim
open Go.Proofs
theorem num_ok {m : AM} {w h : Nat} {r : R4} (hw : w ≤ 16) (hh : h ≤ 16) (hr : r.ok w h) : ACall Tryd.prog 36 #[.int .i64 (w : Nat), .int .i64 (h : Nat), r.rc.v] m (Ret (.int .i64 (r.at w h : Nat)) m) := by
  have := num_at hw hr
  rw [← this]
  exact number_ok hw hh hr.1 hr.2.2.1 hr.2.1 hr.2.2.2
def opI (d : Bool) : Int := if d then 2 else 3
set_option maxRecDepth 100000 in
theorem length_ok {m : AM} (r : R4) (d : Bool) : ACall Tryd.prog 53 #[r.rc.v, .int .i64 (opI d)] m (Ret (.int .i64 (r.len d : Nat)) m) := by
  obtain ⟨x, y, a, b⟩ := r
  change ACall Tryd.prog 53 #[.agg #[.int .i64 (x : Nat), .int .i64 (y : Nat), .int .i64 (a : Nat), .int .i64 (b : Nat)], _] m _
  cases d with
  | true =>
    change ACall Tryd.prog 53 #[_, .int .i64 2] m (Ret (.int .i64 (a : Nat)) m)
    refine ACall.start Tryd.func53 rfl rfl ?_
    (repeat (first | (with_reducible refine AWo.cons ?_) | ((with_reducible refine Step.id ?_); first | ((with_reducible apply Step.move); exact rfl; exact rfl) | ((with_reducible apply Step.assign); exact rfl; exact rfl) | ((with_reducible apply Step.load); exact rfl; (focus (decide +kernel)); exact rfl; (focus (exact Rd.new rfl rfl))) | ((with_reducible apply Step.field (k := 2)); exact rfl; (focus (decide +kernel)); exact rfl) | ((with_reducible apply Step.eql); exact rfl; exact rfl; exact rfl) | ((with_reducible apply Step.box 0); exact rfl; exact rfl; (focus (kernel_rfl)); exact rfl; (focus (first | (simp only [List.nil_append, List.cons_append, List.set_cons_zero, List.set_cons_succ, iv_set, bv_set, iv_rep, bv_rep]; done) | (simp only [List.nil_append, List.cons_append, List.set_cons_zero, List.set_cons_succ, iv_set, bv_set, iv_rep, bv_rep]; rfl) | rfl)))) | (with_reducible refine AWo.nil ?_) | ((with_reducible apply AW.seq)) | ((with_reducible apply Then.n)) | ((with_reducible apply AW.regL)) | ((with_reducible apply AW.condT); exact rfl; (focus (rfl)))))
    (refine AW.retD (l := [(4, _)]) (by repeat (first | exact trivial | (refine And.intro ⟨rfl, by (exact .int _ _)⟩ ?_))) ?_; (repeat (first | refine Then.r ?_ | refine InBlk.r ?_)))
    exact ⟨_, rfl, rfl, rfl⟩
  | false =>
    change ACall Tryd.prog 53 #[_, .int .i64 3] m (Ret (.int .i64 (b : Nat)) m)
    refine ACall.start Tryd.func53 rfl rfl ?_
    (repeat (first | (with_reducible refine AWo.cons ?_) | ((with_reducible refine Step.id ?_); first | ((with_reducible apply Step.move); exact rfl; exact rfl) | ((with_reducible apply Step.assign); exact rfl; exact rfl) | ((with_reducible apply Step.load); exact rfl; (focus (decide +kernel)); exact rfl; (focus (exact Rd.new rfl rfl))) | ((with_reducible apply Step.field (k := 3)); exact rfl; (focus (decide +kernel)); exact rfl) | ((with_reducible apply Step.eql); exact rfl; exact rfl; exact rfl) | ((with_reducible apply Step.box 0); exact rfl; exact rfl; (focus (kernel_rfl)); exact rfl; (focus (first | (simp only [List.nil_append, List.cons_append, List.set_cons_zero, List.set_cons_succ, iv_set, bv_set, iv_rep, bv_rep]; done) | (simp only [List.nil_append, List.cons_append, List.set_cons_zero, List.set_cons_succ, iv_set, bv_set, iv_rep, bv_rep]; rfl) | rfl)))) | (with_reducible refine AWo.nil ?_) | ((with_reducible apply AW.seq)) | ((with_reducible apply Then.n)) | ((with_reducible apply AW.regL)) | ((with_reducible apply AW.skip)) | ((with_reducible apply AW.condF); exact rfl; (focus (rfl)))))
    (refine AW.retD (l := [(4, _)]) (by repeat (first | exact trivial | (refine And.intro ⟨rfl, by (exact .int _ _)⟩ ?_))) ?_; (repeat (first | refine Then.r ?_ | refine InBlk.r ?_)))
    exact ⟨_, rfl, rfl, rfl⟩
theorem Ren.tup2 {ρ : Nat → Nat} {n : Nat} {a b : Value} (ha : Ren ρ n a a) (hb : Ren ρ n b b) : Ren ρ n (.tuple #[a, b]) (.tuple #[a, b]) := .tuple _ _ rfl fun i hi => by
  simp at hi
  rcases (show i = 0 ∨ i = 1 by omega) with rfl | rfl
  · exact ha
  · exact hb
set_option maxHeartbeats 8000000 in
set_option maxRecDepth 100000 in
theorem part_ok {m : AM} (r : R4) (d : Bool) {i : Nat} (h1 : 1 ≤ i) (h2 : i + 1 ≤ r.len d) (hx : r.x ≤ 16 ∧ r.y ≤ 16 ∧ r.a ≤ 16 ∧ r.b ≤ 16) :
    ACall Tryd.prog 54 #[r.rc.v, .int .i64 (opI d), .int .i64 (i : Nat)] m (Ret (.tuple #[(r.lo d i).rc.v, (r.hi d i).rc.v]) m) := by
  refine ACall.drop (Ren.tup2 (Ren.aggI [_, _, _, _]) (Ren.aggI [_, _, _, _])) ?_
  obtain ⟨x, y, a, b⟩ := r
  simp only at hx
  change ACall Tryd.prog 54 #[.agg #[.int .i64 (x : Nat), .int .i64 (y : Nat), .int .i64 (a : Nat), .int .i64 (b : Nat)], _, _] m _
  refine ACall.start Tryd.func54 rfl rfl ?_
  (repeat (first | (with_reducible refine AWo.cons ?_) | ((with_reducible refine Step.id ?_); first | ((with_reducible apply Step.box 0); exact rfl; exact rfl; (focus (kernel_rfl)); exact rfl; (focus (first | (simp only [List.nil_append, List.cons_append, List.set_cons_zero, List.set_cons_succ, iv_set, bv_set, iv_rep, bv_rep]; done) | (simp only [List.nil_append, List.cons_append, List.set_cons_zero, List.set_cons_succ, iv_set, bv_set, iv_rep, bv_rep]; rfl) | rfl))) | ((with_reducible apply Step.alloc 1); exact rfl; exact ze23; exact rfl; (focus (first | (simp only [List.nil_append, List.cons_append, List.set_cons_zero, List.set_cons_succ, iv_set, bv_set, iv_rep, bv_rep]; done) | (simp only [List.nil_append, List.cons_append, List.set_cons_zero, List.set_cons_succ, iv_set, bv_set, iv_rep, bv_rep]; rfl) | rfl))) | ((with_reducible apply Step.alloc 2); exact rfl; exact ze23; exact rfl; (focus (first | (simp only [List.nil_append, List.cons_append, List.set_cons_zero, List.set_cons_succ, iv_set, bv_set, iv_rep, bv_rep]; done) | (simp only [List.nil_append, List.cons_append, List.set_cons_zero, List.set_cons_succ, iv_set, bv_set, iv_rep, bv_rep]; rfl) | rfl)))) | (with_reducible refine AWo.nil ?_) | ((fail_if_success (with_reducible refine AW.atR (id := 1) ?_)); ((with_reducible apply AW.seq))) | ((with_reducible apply Then.n)) | ((with_reducible apply AW.regL))))
  refine AW.joinG (fr [(1, .int .i64 (opI d)), (2, .int .i64 (i : Nat)), (3, .pointer (some ⟨m.length + 0, 0, none⟩)), (6, .pointer (some ⟨m.length + 1, 0, none⟩)), (7, .pointer (some ⟨m.length + 2, 0, none⟩)), (8, .pointer (some ⟨m.length + 3, 0, none⟩)), (9, .pointer (some ⟨m.length + 4, 0, none⟩))])
    (m ++ [some { cells := [.int .i64 (x : Nat), .int .i64 (y : Nat), .int .i64 (a : Nat), .int .i64 (b : Nat)] }, some { cells := iv [0, 0, 0, 0] }, some { cells := iv [0, 0, 0, 0] }, some { cells := [.int .i64 (x : Nat), .int .i64 (y : Nat), .int .i64 (a : Nat), .int .i64 (b : Nat)] }, some { cells := [.int .i64 (x : Nat), .int .i64 (y : Nat), .int .i64 (a : Nat), .int .i64 (b : Nat)] }]) ?_ ?_
  · (repeat' (first | ((with_reducible refine Step.id ?_); first | ((with_reducible apply Step.loadL (n := 4)); exact rfl; (focus (decide +kernel)); (focus (decide +kernel)); exact rfl; (focus (exact RdL.new rfl rfl)); exact rfl; exact rfl) | ((with_reducible apply Step.alloc 3); exact rfl; exact ze23; exact rfl; (focus (first | (simp only [List.nil_append, List.cons_append, List.set_cons_zero, List.set_cons_succ, iv_set, bv_set, iv_rep, bv_rep]; done) | (simp only [List.nil_append, List.cons_append, List.set_cons_zero, List.set_cons_succ, iv_set, bv_set, iv_rep, bv_rep]; rfl) | rfl))) | ((with_reducible apply Step.storeA (k := 3) (n := 4)); exact rfl; exact rfl; exact rfl; exact rfl; (focus (decide +kernel)); exact rfl; (focus (kernel_rfl)); exact rfl; (focus (first | (simp only [List.nil_append, List.cons_append, List.set_cons_zero, List.set_cons_succ, iv_set, bv_set, iv_rep, bv_rep]; done) | (simp only [List.nil_append, List.cons_append, List.set_cons_zero, List.set_cons_succ, iv_set, bv_set, iv_rep, bv_rep]; rfl) | rfl))) | ((with_reducible apply Step.alloc 4); exact rfl; exact ze23; exact rfl; (focus (first | (simp only [List.nil_append, List.cons_append, List.set_cons_zero, List.set_cons_succ, iv_set, bv_set, iv_rep, bv_rep]; done) | (simp only [List.nil_append, List.cons_append, List.set_cons_zero, List.set_cons_succ, iv_set, bv_set, iv_rep, bv_rep]; rfl) | rfl))) | ((with_reducible apply Step.storeA (k := 4) (n := 4)); exact rfl; exact rfl; exact rfl; exact rfl; (focus (decide +kernel)); exact rfl; (focus (kernel_rfl)); exact rfl; (focus (first | (simp only [List.nil_append, List.cons_append, List.set_cons_zero, List.set_cons_succ, iv_set, bv_set, iv_rep, bv_rep]; done) | (simp only [List.nil_append, List.cons_append, List.set_cons_zero, List.set_cons_succ, iv_set, bv_set, iv_rep, bv_rep]; rfl) | rfl)))) | ((with_reducible apply Then.n)) | ((with_reducible apply AW.drawT fit (T := (.both (.step 0 (.both (.step 1 (.both (.step 2 (.step 3 (.step 4 (.step 5 .done)))) (.step 3 (.step 2 (.step 4 (.step 5 .done)))))) (.both (.step 2 (.both (.step 1 (.step 3 (.step 4 (.step 5 .done)))) (.step 3 (.both (.step 1 (.step 4 (.step 5 .done))) (.step 4 (.step 1 (.step 5 .done))))))) (.step 3 (.both (.step 1 (.step 2 (.step 4 (.step 5 .done)))) (.step 2 (.both (.step 1 (.step 4 (.step 5 .done))) (.step 4 (.step 1 (.step 5 .done)))))))))) (.both (.step 1 (.both (.step 0 (.both (.step 2 (.step 3 (.step 4 (.step 5 .done)))) (.step 3 (.step 2 (.step 4 (.step 5 .done)))))) (.both (.step 2 (.both (.step 0 (.step 3 (.step 4 (.step 5 .done)))) (.step 3 (.step 0 (.step 4 (.step 5 .done)))))) (.step 3 (.both (.step 0 (.step 2 (.step 4 (.step 5 .done)))) (.step 2 (.step 0 (.step 4 (.step 5 .done))))))))) (.both (.step 2 (.both (.step 0 (.both (.step 1 (.step 3 (.step 4 (.step 5 .done)))) (.step 3 (.both (.step 1 (.step 4 (.step 5 .done))) (.step 4 (.step 1 (.step 5 .done))))))) (.both (.step 1 (.both (.step 0 (.step 3 (.step 4 (.step 5 .done)))) (.step 3 (.step 0 (.step 4 (.step 5 .done)))))) (.step 3 (.step 0 (.both (.step 1 (.step 4 (.step 5 .done))) (.step 4 (.step 1 (.step 5 .done))))))))) (.step 3 (.both (.step 0 (.both (.step 1 (.step 2 (.step 4 (.step 5 .done)))) (.step 2 (.both (.step 1 (.step 4 (.step 5 .done))) (.step 4 (.step 1 (.step 5 .done))))))) (.both (.step 1 (.both (.step 0 (.step 2 (.step 4 (.step 5 .done)))) (.step 2 (.step 0 (.step 4 (.step 5 .done)))))) (.step 2 (.step 0 (.both (.step 1 (.step 4 (.step 5 .done))) (.step 4 (.step 1 (.step 5 .done)))))))))))))); (focus (decide +kernel))) | ((with_reducible apply AWt.step); exact rfl) | ((with_reducible apply AWt.done)) | refine AWt.both ?_ ?_))
    all_goals first | (refine Gc.perm [0,1,2,3,4] rfl (by decide) ?_ (CellsOk.ren ?_) ?_; (focus (intro p hp; rcases p with _ | _ | _ | _ | _ | p <;> first | rfl | exact absurd hp (lenB (n := 5) rfl))); (focus (repeat (first | exact CellsOk.nil | refine CellsOk.cons (by first | exact g0_iv _ | (intro v hv; simp at hv; first | (subst hv; rfl) | (rcases hv with rfl | rfl <;> rfl) | (rcases hv with rfl | rfl | rfl <;> rfl) | (rcases hv with rfl | rfl | rfl | rfl <;> rfl))) ?_))); (focus ((repeat (first | exact trivial | (refine And.intro ⟨_, rfl, ?_⟩ ?_; (focus (first | exact .int _ _ | (refine Ren.ptr_sg ?_; (focus (first | (simp; done) | omega | (simp; omega))))))))); done))) | (refine Gc.perm [0,1,2,4,3] rfl (by decide) ?_ (CellsOk.ren ?_) ?_; (focus (intro p hp; rcases p with _ | _ | _ | _ | _ | p <;> first | rfl | exact absurd hp (lenB (n := 5) rfl))); (focus (repeat (first | exact CellsOk.nil | refine CellsOk.cons (by first | exact g0_iv _ | (intro v hv; simp at hv; first | (subst hv; rfl) | (rcases hv with rfl | rfl <;> rfl) | (rcases hv with rfl | rfl | rfl <;> rfl) | (rcases hv with rfl | rfl | rfl | rfl <;> rfl))) ?_))); (focus ((repeat (first | exact trivial | (refine And.intro ⟨_, rfl, ?_⟩ ?_; (focus (first | exact .int _ _ | (refine Ren.ptr_sg ?_; (focus (first | (simp; done) | omega | (simp; omega))))))))); done)))
  cases d with
  | true =>
    change i + 1 ≤ a at h2
    change AW _ _ _ _ (fr ((1, .int .i64 2) :: _)) _ (Ends _ _ fun v m' => v = .tuple #[.agg #[.int .i64 (x : Nat), .int .i64 (y : Nat), .int .i64 (i : Nat), .int .i64 (b : Nat)], .agg #[.int .i64 ((x + i : Nat)), .int .i64 (y : Nat), .int .i64 ((a - i : Nat)), .int .i64 (b : Nat)]] ∧ ∃ N, m' = m ++ N)
    have e1 : ((x + i : Nat) : Int) = (x : Int) + (i : Int) := by omega
    have e2 : ((a - i : Nat) : Int) = (a : Int) - (i : Int) := by omega
    rw [e1, e2]
    (repeat' (first | (with_reducible refine AWo.cons ?_) | ((with_reducible refine Step.id ?_); first | ((with_reducible apply Step.move); exact rfl; exact rfl) | ((with_reducible apply Step.load); exact rfl; (focus (decide +kernel)); exact rfl; (focus (exact Rd.new rfl rfl))) | ((with_reducible apply Step.loadL (n := 4)); exact rfl; (focus (decide +kernel)); (focus (decide +kernel)); exact rfl; (focus (exact RdL.new rfl rfl)); exact rfl; exact rfl) | ((with_reducible apply Step.field0); exact rfl; (focus (decide +kernel)); exact rfl) | ((with_reducible apply Step.field (k := 2)); exact rfl; (focus (decide +kernel)); exact rfl) | ((with_reducible apply Step.add); exact rfl; exact rfl; (focus (omega)); exact rfl) | ((with_reducible apply Step.sub); exact rfl; exact rfl; (focus (omega)); exact rfl) | ((with_reducible apply Step.eql); exact rfl; exact rfl; exact rfl) | ((with_reducible apply Step.storeA (k := 1) (n := 4)); exact rfl; exact rfl; exact rfl; exact rfl; (focus (decide +kernel)); exact rfl; (focus (kernel_rfl)); exact rfl; (focus (first | (simp only [List.nil_append, List.cons_append, List.set_cons_zero, List.set_cons_succ, iv_set, bv_set, iv_rep, bv_rep]; done) | (simp only [List.nil_append, List.cons_append, List.set_cons_zero, List.set_cons_succ, iv_set, bv_set, iv_rep, bv_rep]; rfl) | rfl))) | ((with_reducible apply Step.storeA (k := 2) (n := 4)); exact rfl; exact rfl; exact rfl; exact rfl; (focus (decide +kernel)); exact rfl; (focus (kernel_rfl)); exact rfl; (focus (first | (simp only [List.nil_append, List.cons_append, List.set_cons_zero, List.set_cons_succ, iv_set, bv_set, iv_rep, bv_rep]; done) | (simp only [List.nil_append, List.cons_append, List.set_cons_zero, List.set_cons_succ, iv_set, bv_set, iv_rep, bv_rep]; rfl) | rfl))) | ((with_reducible apply Step.store (k := 3)); exact rfl; exact rfl; exact rfl; exact rfl; (focus (decide +kernel)); exact rfl; exact rfl; (focus (first | omega | (simp [iv, bv]; done) | (simp [iv, bv]; omega))); (focus (first | (simp only [List.nil_append, List.cons_append, List.set_cons_zero, List.set_cons_succ, iv_set, bv_set, iv_rep, bv_rep]; done) | (simp only [List.nil_append, List.cons_append, List.set_cons_zero, List.set_cons_succ, iv_set, bv_set, iv_rep, bv_rep]; rfl) | rfl))) | ((with_reducible apply Step.store (k := 4)); exact rfl; exact rfl; exact rfl; exact rfl; (focus (decide +kernel)); exact rfl; exact rfl; (focus (first | omega | (simp [iv, bv]; done) | (simp [iv, bv]; omega))); (focus (first | (simp only [List.nil_append, List.cons_append, List.set_cons_zero, List.set_cons_succ, iv_set, bv_set, iv_rep, bv_rep]; done) | (simp only [List.nil_append, List.cons_append, List.set_cons_zero, List.set_cons_succ, iv_set, bv_set, iv_rep, bv_rep]; rfl) | rfl)))) | (with_reducible refine AWo.nil ?_) | ((with_reducible apply AW.seq)) | ((with_reducible apply Then.n)) | ((with_reducible apply AW.regL)) | ((with_reducible apply AW.drawT fit (T := (.step 0 (.step 1 (.step 3 (.step 5 (.step 7 (.step 9 (.both (.step 2 (.step 4 (.both (.step 6 (.step 8 (.step 10 (.step 11 (.step 12 (.step 13 (.step 14 .done))))))) (.step 10 (.step 11 (.both (.step 6 (.step 8 (.step 12 (.step 13 (.step 14 .done))))) (.step 12 (.step 6 (.step 8 (.step 13 (.step 14 .done))))))))))) (.both (.step 6 (.step 8 (.both (.step 2 (.step 4 (.step 10 (.step 11 (.step 12 (.step 13 (.step 14 .done))))))) (.step 10 (.step 2 (.step 4 (.step 11 (.step 12 (.step 13 (.step 14 .done)))))))))) (.step 10 (.step 2 (.step 4 (.step 11 (.both (.step 6 (.step 8 (.step 12 (.step 13 (.step 14 .done))))) (.step 12 (.step 6 (.step 8 (.step 13 (.step 14 .done)))))))))))))))))))); (focus (decide +kernel))) | ((with_reducible apply AW.drawT fit (T := (.step 0 (.both (.step 1 (.step 2 (.step 3 .done))) (.step 2 (.step 1 (.step 3 .done))))))); (focus (decide +kernel))) | ((with_reducible apply AWt.step); exact rfl) | ((with_reducible apply AWt.done)) | ((with_reducible apply AW.condT); exact rfl; (focus (rfl))) | refine AWt.both ?_ ?_))
    all_goals
      (refine AW.ret ?_; (repeat (first | refine Then.r ?_ | refine InBlk.r ?_)))
      exact ⟨_, ares_cell2 rfl rfl rfl (by decide +kernel) (n1 := 4) (by decide +kernel) (RdL.new rfl rfl) rfl rfl (by decide +kernel) (n2 := 4) (by decide +kernel) (RdL.new rfl rfl) rfl rfl, rfl, _, rfl⟩
  | false =>
    change i + 1 ≤ b at h2
    change AW _ _ _ _ (fr ((1, .int .i64 3) :: _)) _ (Ends _ _ fun v m' => v = .tuple #[.agg #[.int .i64 (x : Nat), .int .i64 (y : Nat), .int .i64 (a : Nat), .int .i64 (i : Nat)], .agg #[.int .i64 (x : Nat), .int .i64 ((y + i : Nat)), .int .i64 (a : Nat), .int .i64 ((b - i : Nat))]] ∧ ∃ N, m' = m ++ N)
    have e1 : ((y + i : Nat) : Int) = (y : Int) + (i : Int) := by omega
    have e2 : ((b - i : Nat) : Int) = (b : Int) - (i : Int) := by omega
    rw [e1, e2]
    (repeat' (first | (with_reducible refine AWo.cons ?_) | ((with_reducible refine Step.id ?_); first | ((with_reducible apply Step.move); exact rfl; exact rfl) | ((with_reducible apply Step.load); exact rfl; (focus (decide +kernel)); exact rfl; (focus (exact Rd.new rfl rfl))) | ((with_reducible apply Step.loadL (n := 4)); exact rfl; (focus (decide +kernel)); (focus (decide +kernel)); exact rfl; (focus (exact RdL.new rfl rfl)); exact rfl; exact rfl) | ((with_reducible apply Step.field (k := 1)); exact rfl; (focus (decide +kernel)); exact rfl) | ((with_reducible apply Step.field (k := 3)); exact rfl; (focus (decide +kernel)); exact rfl) | ((with_reducible apply Step.add); exact rfl; exact rfl; (focus (omega)); exact rfl) | ((with_reducible apply Step.sub); exact rfl; exact rfl; (focus (omega)); exact rfl) | ((with_reducible apply Step.eql); exact rfl; exact rfl; exact rfl) | ((with_reducible apply Step.storeA (k := 1) (n := 4)); exact rfl; exact rfl; exact rfl; exact rfl; (focus (decide +kernel)); exact rfl; (focus (kernel_rfl)); exact rfl; (focus (first | (simp only [List.nil_append, List.cons_append, List.set_cons_zero, List.set_cons_succ, iv_set, bv_set, iv_rep, bv_rep]; done) | (simp only [List.nil_append, List.cons_append, List.set_cons_zero, List.set_cons_succ, iv_set, bv_set, iv_rep, bv_rep]; rfl) | rfl))) | ((with_reducible apply Step.storeA (k := 2) (n := 4)); exact rfl; exact rfl; exact rfl; exact rfl; (focus (decide +kernel)); exact rfl; (focus (kernel_rfl)); exact rfl; (focus (first | (simp only [List.nil_append, List.cons_append, List.set_cons_zero, List.set_cons_succ, iv_set, bv_set, iv_rep, bv_rep]; done) | (simp only [List.nil_append, List.cons_append, List.set_cons_zero, List.set_cons_succ, iv_set, bv_set, iv_rep, bv_rep]; rfl) | rfl))) | ((with_reducible apply Step.store (k := 3)); exact rfl; exact rfl; exact rfl; exact rfl; (focus (decide +kernel)); exact rfl; exact rfl; (focus (first | omega | (simp [iv, bv]; done) | (simp [iv, bv]; omega))); (focus (first | (simp only [List.nil_append, List.cons_append, List.set_cons_zero, List.set_cons_succ, iv_set, bv_set, iv_rep, bv_rep]; done) | (simp only [List.nil_append, List.cons_append, List.set_cons_zero, List.set_cons_succ, iv_set, bv_set, iv_rep, bv_rep]; rfl) | rfl))) | ((with_reducible apply Step.store (k := 4)); exact rfl; exact rfl; exact rfl; exact rfl; (focus (decide +kernel)); exact rfl; exact rfl; (focus (first | omega | (simp [iv, bv]; done) | (simp [iv, bv]; omega))); (focus (first | (simp only [List.nil_append, List.cons_append, List.set_cons_zero, List.set_cons_succ, iv_set, bv_set, iv_rep, bv_rep]; done) | (simp only [List.nil_append, List.cons_append, List.set_cons_zero, List.set_cons_succ, iv_set, bv_set, iv_rep, bv_rep]; rfl) | rfl)))) | (with_reducible refine AWo.nil ?_) | ((with_reducible apply AW.seq)) | ((with_reducible apply Then.n)) | ((with_reducible apply AW.regL)) | ((with_reducible apply AW.drawT fit (T := (.step 0 (.step 1 (.step 3 (.step 5 (.step 7 (.step 9 (.both (.step 2 (.step 4 (.both (.step 6 (.step 8 (.step 10 (.step 11 (.step 12 (.step 13 (.step 14 .done))))))) (.step 10 (.step 11 (.both (.step 6 (.step 8 (.step 12 (.step 13 (.step 14 .done))))) (.step 12 (.step 6 (.step 8 (.step 13 (.step 14 .done))))))))))) (.both (.step 6 (.step 8 (.both (.step 2 (.step 4 (.step 10 (.step 11 (.step 12 (.step 13 (.step 14 .done))))))) (.step 10 (.step 2 (.step 4 (.step 11 (.step 12 (.step 13 (.step 14 .done)))))))))) (.step 10 (.step 2 (.step 4 (.step 11 (.both (.step 6 (.step 8 (.step 12 (.step 13 (.step 14 .done))))) (.step 12 (.step 6 (.step 8 (.step 13 (.step 14 .done)))))))))))))))))))); (focus (decide +kernel))) | ((with_reducible apply AW.drawT fit (T := (.step 0 (.both (.step 1 (.step 2 (.step 3 .done))) (.step 2 (.step 1 (.step 3 .done))))))); (focus (decide +kernel))) | ((with_reducible apply AWt.step); exact rfl) | ((with_reducible apply AWt.done)) | ((with_reducible apply AW.condF); exact rfl; (focus (rfl))) | refine AWt.both ?_ ?_))
    all_goals
      (refine AW.ret ?_; (repeat (first | refine Then.r ?_ | refine InBlk.r ?_)))
      exact ⟨_, ares_cell2 rfl rfl rfl (by decide +kernel) (n1 := 4) (by decide +kernel) (RdL.new rfl rfl) rfl rfl (by decide +kernel) (n2 := 4) (by decide +kernel) (RdL.new rfl rfl) rfl rfl, rfl, _, rfl⟩
end Go.Proofs.YtedbjmgchfgabaaDoor.Abs
namespace Go.Proofs.YtedbjmgchfgabaaDoor.Abs
set_option linter.unusedSimpArgs false
set_option linter.unusedVariables false
open Go.RowKit
open Go.Proofs.YtedbjmgchfgabaaDoor.Sim
theorem fr_get : ∀ {l : List (Nat × Value)} {i : Nat} {v : Value}, fr l i = some v → (i, v) ∈ l
  | [], _, _, h => by cases h
  | (d, x) :: l, i, v, h => by
    unfold fr at h
    by_cases e : i = d
    · subst e
      rw [put_same] at h
      injection h with h
      subst h
      exact List.mem_cons_self
    · rw [put_ne _ _ e] at h
      exact List.mem_cons_of_mem _ (fr_get h)
theorem fr_none : ∀ {l : List (Nat × Value)} {i : Nat}, fr l i = none → ∀ e ∈ l, e.1 ≠ i
  | [], _, _, e, he => by cases he
  | (d, x) :: l, i, h, e, he => by
    unfold fr at h
    by_cases e' : i = d
    · subst e'
      rw [put_same] at h
      cases h
    · rw [put_ne _ _ e'] at h
      rcases List.mem_cons.1 he with rfl | he
      · exact fun q => e' q.symm
      · exact fr_none h e he
theorem fr_app : ∀ (a b : List (Nat × Value)) (i : Nat), fr (a ++ b) i = match fr a i with | some v => some v | none => fr b i
  | [], _, _ => rfl
  | (d, x) :: a, b, i => by
    rw [List.cons_append]
    show put (fr (a ++ b)) d x i = match put (fr a) d x i with | some v => some v | none => fr b i
    by_cases e : i = d
    · subst e; rw [put_same, put_same]
    · rw [put_ne _ _ e, put_ne _ _ e]; exact fr_app a b i
theorem all_mem {t : Fm} : ∀ {bs : List (Nat × Value)}, All (fun i v => t i = some v) bs → ∀ e ∈ bs, t e.1 = some e.2
  | [], _, e, he => by cases he
  | (x1, x2) :: bs, h, e, he => by
    rcases List.mem_cons.1 he with rfl | he
    · exact h.1
    · exact all_mem h.2 e he
theorem Step.weakK {P : Program} {nt : Nat} {ops : Array Oper} {o : Oper} {t1 t : Fm} {m : AM} {K K' : Fm → AM → Prop} (hs : ∀ i v, t1 i = some v → t i = some v) (hk : ∀ v m', K (putO t1 o.dst v) m' → K' (putO t o.dst v) m')
    (h : Step P nt ops o t1 m K) : Step P nt ops o t m K' := by
  obtain ⟨h1, h2⟩ := h
  have hkn : ∀ ev, Kn t1 o ev → Kn t o ev := fun ev k1 x hx => by
    have := k1 x hx
    cases x with
    | tmp i => exact hs _ _ this
    | const c => exact this
    | func f => exact this
    | global g => exact this
  refine ⟨h1, ?_⟩
  cases hg : o.guard with
  | none =>
    rw [hg] at h2
    simp only at h2 ⊢
    obtain ⟨ev, k1, k2⟩ := h2
    exact ⟨ev, hkn ev k1, k2.mono fun v' m' => hk v' m'⟩
  | some jb =>
    obtain ⟨j, b⟩ := jb
    rw [hg] at h2
    simp only at h2 ⊢
    obtain ⟨g, k1, k2⟩ := h2
    refine ⟨g, ?_, ?_⟩
    · unfold gval at k1 ⊢
      split at k1
      · exact hs _ _ k1
      · cases k1
    · split
      · rename_i hw
        rw [if_pos hw] at k2
        obtain ⟨ev, q1, q2⟩ := k2
        exact ⟨ev, hkn ev q1, q2.mono fun v' m' => hk v' m'⟩
      · rename_i hw
        rw [if_neg hw] at k2
        exact hk _ _ k2
theorem Step.weakF {P : Program} {nt : Nat} {ops : Array Oper} {o : Oper} {t1 t : Fm} {m : AM} {d : Nat} {v : Value} (hs : ∀ i v, t1 i = some v → t i = some v) (hd : o.dst = some d)
    (h : Step P nt ops o t1 m (fun t' m' => t' d = some v ∧ m' = m)) : Step P nt ops o t m (fun t' m' => t' = put t d v ∧ m' = m) :=
  h.weakK hs fun x m' hk => by
    rw [hd] at hk ⊢
    simp only [putO] at hk ⊢
    rw [put_same] at hk
    obtain ⟨e, e2⟩ := hk
    injection e with e
    subst e
    exact ⟨rfl, e2⟩
def depL (acc : List (Nat × Value)) (D : List Nat) : List (Nat × Value) := D.map fun j => acc.getD j (0, undef)
def AWf (P : Program) (nt : Nat) (m : AM) (ops : Array Oper) (bs : List (Nat × Value)) : List Oper → List (List Nat) → List (Nat × Value) → (List (Nat × Value) → Prop) → Prop
  | [], _, acc, Q => Q acc
  | o :: rest, D, acc, Q => ∃ d v, o.dst = some d ∧ Step P nt ops o (fr (depL acc (D.headD []) ++ bs)) m (fun t' m' => t' d = some v ∧ m' = m) ∧ AWf P nt m ops bs rest D.tail ((d, v) :: acc) Q
section
variable {P : Program} {nt : Nat} {t : Fm} {m m0 : AM} {l : List Oper} {bs : List (Nat × Value)}
theorem AWf.cons {ops : Array Oper} {o : Oper} {rest : List Oper} {dd : List Nat} {D : List (List Nat)} {acc : List (Nat × Value)} {Q : List (Nat × Value) → Prop} {d : Nat} {v : Value} (hd : o.dst = some d) (h : Step P nt ops o (fr (depL acc dd ++ bs)) m (fun t' m' => t' d = some v ∧ m' = m)) (hr : AWf P nt m ops bs rest D ((d, v) :: acc) Q) :
    AWf P nt m ops bs (o :: rest) (dd :: D) acc Q := ⟨d, v, hd, h, hr⟩
theorem AWf.nil {ops : Array Oper} {D : List (List Nat)} {acc : List (Nat × Value)} {Q : List (Nat × Value) → Prop} (h : Q acc) : AWf P nt m ops bs [] D acc Q := h
theorem AWf.get {ops : Array Oper} : ∀ {rest : List Oper} {D : List (List Nat)} {acc : List (Nat × Value)} {Q : List (Nat × Value) → Prop}, AWf P nt m ops bs rest D acc Q → ∃ a1 : List (Nat × Value), a1.length = rest.length ∧ Q (a1.reverse ++ acc) ∧ ∀ i o, rest[i]? = some o → ∃ d v, a1[i]? = some (d, v) ∧ o.dst = some d ∧ Step P nt ops o (fr (depL ((a1.take i).reverse ++ acc) (D.getD i []) ++ bs)) m (fun t' m' => t' d = some v ∧ m' = m)
  | [], _, acc, Q, h => ⟨[], rfl, h, fun i o ho => by simp at ho⟩
  | o :: rest, D, acc, Q, h => by
    obtain ⟨d, v, hd, h1, h2⟩ := h
    obtain ⟨a1, g1, g2, g3⟩ := AWf.get h2
    refine ⟨(d, v) :: a1, by simp [g1], by rw [List.reverse_cons, List.append_assoc]; exact g2, fun i o' ho => ?_⟩
    cases i with
    | zero =>
      simp only [List.getElem?_cons_zero, Option.some.injEq] at ho
      subst ho
      refine ⟨d, v, rfl, hd, ?_⟩
      rw [List.take_zero, List.reverse_nil, List.nil_append]
      cases D <;> exact h1
    | succ i =>
      simp only [List.getElem?_cons_succ] at ho ⊢
      obtain ⟨d', v', k1, k2, k3⟩ := g3 i o' ho
      refine ⟨d', v', k1, k2, ?_⟩
      rw [List.take_succ_cons, List.reverse_cons, List.append_assoc]
      have : D.tail.getD i [] = D.getD (i + 1) [] := by cases D <;> simp
      rw [this] at k3
      exact k3
/-- What each operation waits for, counted back from it. -/
def backL (l : List Oper) : List (List Nat) := (List.range l.length).map fun i => match l[i]? with
  | some o => (depsO o).map fun j => i - 1 - j
  | none => []
/-- What makes a region flat: each operation's slot is its own, none is guarded, and all lead to the last one. -/
def flatB (l : List Oper) (ks : List Nat) (D : List (List Nat)) : Bool :=
  decide (D = backL l) && (Nat.blt 0 l.length && (backB l && ((l.map (·.dst)).Nodup && (((List.range (l.length - 1)).all fun i => (List.range l.length).any fun j => Nat.blt i j && match l[j]? with | some o => (depsO o).contains i | none => false) &&
    (ks.all fun k => (l.dropLast).all fun o => o.dst != some k)))))
theorem AW.flat (hP : Fit P) {id : Nat} {Q : AEx → Fm → AM → Prop} (bs l1 : List (Nat × Value)) (ks : List Nat) (D : List (List Nat)) (hbs : All (fun i v => t i = some v) bs) (hks : bs.map (·.1) = ks) (hb : flatB l ks D = true)
    (h : AWf P nt m l.toArray bs l D [] (fun acc => All (fun i v => fr (acc ++ bs) i = some v) l1)) (h2 : ∀ t', (∀ i v, fr l1 i = some v → t' i = some v) → Q .normal t' m) : AW P nt m0 (.region id l.toArray true) t m Q := by
  subst hks
  simp only [flatB, Bool.and_eq_true] at hb
  obtain ⟨bD, b0, b1, b3, b4, b5⟩ := hb
  have hn : 0 < l.length := by simpa using b0
  have eD : D = backL l := of_decide_eq_true bD
  obtain ⟨acc, a1, a2, a3⟩ := AWf.get h
  rw [List.append_nil] at a2
  have a3' : ∀ i o, l[i]? = some o → ∃ d v, acc[i]? = some (d, v) ∧ o.dst = some d ∧ Step P nt l.toArray o (fr ((depsO o).map (fun j => (acc.take i).reverse.getD (i - 1 - j) (0, undef)) ++ bs)) m (fun t' m' => t' d = some v ∧ m' = m) := fun i o hi => by
    obtain ⟨d, v, k1, k2, k3⟩ := a3 i o hi
    refine ⟨d, v, k1, k2, ?_⟩
    have hil := (List.getElem?_eq_some_iff.1 hi).1
    have : D.getD i [] = (depsO o).map fun j => i - 1 - j := by
      rw [eD]
      have ho : l[i] = o := by rw [List.getElem?_eq_getElem hil] at hi; injection hi
      simp [backL, hil, ho]
    rw [this, List.append_nil] at k3
    unfold depL at k3
    rw [List.map_map] at k3
    exact k3
  have hnd : (l.map (·.dst)).Nodup := by simpa using b3
  have hdiff : ∀ (i j : Nat) (o o' : Oper), l[i]? = some o → l[j]? = some o' → i ≠ j → o.dst ≠ o'.dst := fun i j o o' hi hj hij e => by
    have hi' := (List.getElem?_eq_some_iff.1 hi).1
    have hj' := (List.getElem?_eq_some_iff.1 hj).1
    have := (List.getElem_inj (h₀ := by simpa using hi') (h₁ := by simpa using hj') hnd).1 (by
      simp only [List.getElem_map]
      have e1 : l[i] = o := by rw [List.getElem?_eq_getElem hi'] at hi; injection hi
      have e2 : l[j] = o' := by rw [List.getElem?_eq_getElem hj'] at hj; injection hj
      rw [e1, e2, e])
    exact hij this
  have hall : ∀ (L : Nat → Bool), (∀ i o, l[i]? = some o → L i = true → ∀ j ∈ depsO o, L j = true) → L (l.length - 1) = true → ∀ i, i < l.length → L i = true := by
    intro L hc hl
    suffices H : ∀ k i, i < l.length → l.length - 1 - i ≤ k → L i = true from fun i hi => H _ i hi (Nat.le_refl _)
    intro k
    induction k with
    | zero => intro i hi hk; rw [show i = l.length - 1 by omega]; exact hl
    | succ k ih =>
      intro i hi hk
      by_cases e : i = l.length - 1
      · rw [e]; exact hl
      · have := List.all_eq_true.1 b4 i (List.mem_range.2 (by omega))
        obtain ⟨j, hj1, hj2⟩ := List.any_eq_true.1 this
        simp only [Bool.and_eq_true] at hj2
        obtain ⟨hj2, hj3⟩ := hj2
        have hij : i < j := by simpa using hj2
        have hjl := List.mem_range.1 hj1
        rw [List.getElem?_eq_getElem hjl] at hj3
        simp only at hj3
        have hLj := ih j hjl (by omega)
        exact hc j _ (List.getElem?_eq_getElem hjl) hLj i (by simpa using hj3)
  obtain ⟨ol, hol⟩ : ∃ o, l[l.length - 1]? = some o := ⟨_, List.getElem?_eq_getElem (by omega)⟩
  obtain ⟨dl, vl, hdl, hdl2, _⟩ := a3' _ ol hol
  have hkeys : ∀ e ∈ bs, ∀ i o, i < l.length - 1 → l[i]? = some o → o.dst ≠ some e.1 := fun e he i o hi ho => by
    have := List.all_eq_true.1 b5 e.1 (List.mem_map_of_mem he)
    have := List.all_eq_true.1 this o (List.mem_iff_getElem?.2 ⟨i, by rw [List.getElem?_dropLast, if_pos hi]; exact ho⟩)
    simpa using this
  have hbs' := all_mem hbs
  refine AW.anyI hP (fun L t' m' => m' = m ∧ (∀ i o, l[i]? = some o → L i = true → ∀ j ∈ depsO o, L j = true) ∧ (∀ i d v, acc[i]? = some (d, v) → L i = true → t' d = some v) ∧ ∀ e ∈ bs, (L (l.length - 1) = false ∨ e.1 ≠ dl) → t' e.1 = some e.2) b1
    ⟨rfl, fun i o _ h => (by cases h), fun i d v _ h => (by cases h), fun e he _ => hbs' e he⟩ ?_ ?_
  · rintro i o hi L t' m' ⟨rfl, c1, c2, c3⟩ hLi hdeps
    obtain ⟨d, v, q1, q2, q3⟩ := a3' i o hi
    have hil := (List.getElem?_eq_some_iff.1 hi).1
    have hLl : L (l.length - 1) = false := by
      cases e : L (l.length - 1) with
      | false => rfl
      | true => rw [hall L c1 e i hil] at hLi; cases hLi
    have hback := List.all_eq_true.1 b1 i (List.mem_range.2 hil)
    rw [hi] at hback
    simp only at hback
    refine (Step.weakF (fun s x hx => ?_) q2 q3).mono fun x m' hk => ?_
    · rcases List.mem_append.1 (fr_get hx) with hx | hx
      · obtain ⟨j, hj, he⟩ := List.mem_map.1 hx
        have hji : j < i := by simpa using List.all_eq_true.1 hback j hj
        have hja : j < acc.length := by omega
        have e : acc[j]? = some (s, x) := by
          have hlt : (acc.take i).length = i := by rw [List.length_take]; omega
          rw [List.getD_eq_getElem?_getD, List.getElem?_reverse (by omega), hlt, show i - 1 - (i - 1 - j) = j by omega, List.getElem?_take, if_pos hji, List.getElem?_eq_getElem hja] at he
          rw [List.getElem?_eq_getElem hja]
          simpa using he
        exact c2 j s x e (hdeps j hj)
      · exact c3 (s, x) hx (.inl hLl)
    · rw [q2] at hk ⊢
      simp only [putO] at hk ⊢
      obtain ⟨k1, rfl⟩ := hk
      rw [k1]
      refine ⟨rfl, fun j o' hj hLj k hk => ?_, fun j d' v' hj hLj => ?_, fun e he hc => ?_⟩
      · by_cases e : k = i
        · subst e; exact upL_same L k
        · rw [upL_ne L e]
          by_cases e' : j = i
          · subst e'
            rw [hi] at hj
            injection hj with hj
            subst hj
            exact hdeps k hk
          · rw [upL_ne L e'] at hLj
            exact c1 j o' hj hLj k hk
      · by_cases e : j = i
        · subst e
          rw [q1] at hj
          simp only [Option.some.injEq, Prod.mk.injEq] at hj
          obtain ⟨rfl, rfl⟩ := hj
          exact put_same ..
        · rw [upL_ne L e] at hLj
          have hjl : j < l.length := by have := (List.getElem?_eq_some_iff.1 hj).1; omega
          obtain ⟨d2, v2, w1, w2, _⟩ := a3' j _ (List.getElem?_eq_getElem hjl)
          rw [hj] at w1
          simp only [Option.some.injEq, Prod.mk.injEq] at w1
          obtain ⟨rfl, rfl⟩ := w1
          rw [put_ne]
          · exact c2 j d' v' hj hLj
          · rintro rfl
            exact hdiff j i _ o (List.getElem?_eq_getElem hjl) hi e (w2.trans q2.symm)
      · rw [put_ne]
        · exact c3 e he (.inl hLl)
        · intro q
          by_cases e' : i = l.length - 1
          · subst e'
            rw [upL_same] at hc
            rw [hi] at hol
            injection hol with hol
            subst hol
            rw [q2] at hdl2
            injection hdl2 with hdl2
            rcases hc with hc | hc
            · cases hc
            · exact hc (by rw [q, hdl2])
          · exact hkeys e he i o (by omega) hi (by rw [q2, q])
  · rintro L t' m' hL ⟨rfl, c1, c2, c3⟩
    refine h2 t' fun i v hi => ?_
    have hq : fr (acc.reverse ++ bs) i = some v := by
      exact all_mem a2 (i, v) (fr_get hi)
    rw [fr_app] at hq
    cases hfa : fr acc.reverse i with
    | some x =>
      rw [hfa] at hq
      simp only [Option.some.injEq] at hq
      subst hq
      obtain ⟨j, hj⟩ := List.mem_iff_getElem?.1 (List.mem_reverse.1 (fr_get hfa))
      exact c2 j i x hj (hL j (by have := (List.getElem?_eq_some_iff.1 hj).1; omega))
    | none =>
      rw [hfa] at hq
      simp only at hq
      have hne := fr_none hfa (dl, vl) (List.mem_reverse.2 (List.mem_of_getElem? hdl))
      exact c3 (i, v) (fr_get hq) (.inr fun e => hne e.symm)
def flatNB (l : List Oper) (ks : List Nat) (D : List (List Nat)) : Bool :=
  decide (D = backL l) && (backB l && ((l.map (·.dst)).Nodup && (ks.all fun k => l.all fun o => o.dst != some k)))
/-- As flat; nothing that is read from before is set anew. -/
theorem AW.flatN (hP : Fit P) {id : Nat} {Q : AEx → Fm → AM → Prop} (bs l1 : List (Nat × Value)) (ks : List Nat) (D : List (List Nat)) (hbs : All (fun i v => t i = some v) bs) (hks : bs.map (·.1) = ks) (hb : flatNB l ks D = true)
    (h : AWf P nt m l.toArray bs l D [] (fun acc => All (fun i v => fr (acc ++ bs) i = some v) l1)) (h2 : ∀ t', (∀ i v, fr l1 i = some v → t' i = some v) → Q .normal t' m) : AW P nt m0 (.region id l.toArray true) t m Q := by
  subst hks
  simp only [flatNB, Bool.and_eq_true] at hb
  obtain ⟨bD, b1, b3, b5⟩ := hb
  have eD : D = backL l := of_decide_eq_true bD
  obtain ⟨acc, a1, a2, a3⟩ := AWf.get h
  rw [List.append_nil] at a2
  have a3' : ∀ i o, l[i]? = some o → ∃ d v, acc[i]? = some (d, v) ∧ o.dst = some d ∧ Step P nt l.toArray o (fr ((depsO o).map (fun j => (acc.take i).reverse.getD (i - 1 - j) (0, undef)) ++ bs)) m (fun t' m' => t' d = some v ∧ m' = m) := fun i o hi => by
    obtain ⟨d, v, k1, k2, k3⟩ := a3 i o hi
    refine ⟨d, v, k1, k2, ?_⟩
    have hil := (List.getElem?_eq_some_iff.1 hi).1
    have : D.getD i [] = (depsO o).map fun j => i - 1 - j := by
      rw [eD]
      have ho : l[i] = o := by rw [List.getElem?_eq_getElem hil] at hi; injection hi
      simp [backL, hil, ho]
    rw [this, List.append_nil] at k3
    unfold depL at k3
    rw [List.map_map] at k3
    exact k3
  have hnd : (l.map (·.dst)).Nodup := by simpa using b3
  have hdiff : ∀ (i j : Nat) (o o' : Oper), l[i]? = some o → l[j]? = some o' → i ≠ j → o.dst ≠ o'.dst := fun i j o o' hi hj hij e => by
    have hi' := (List.getElem?_eq_some_iff.1 hi).1
    have hj' := (List.getElem?_eq_some_iff.1 hj).1
    have := (List.getElem_inj (h₀ := by simpa using hi') (h₁ := by simpa using hj') hnd).1 (by
      simp only [List.getElem_map]
      have e1 : l[i] = o := by rw [List.getElem?_eq_getElem hi'] at hi; injection hi
      have e2 : l[j] = o' := by rw [List.getElem?_eq_getElem hj'] at hj; injection hj
      rw [e1, e2, e])
    exact hij this
  have hkeys : ∀ e ∈ bs, ∀ (i : Nat) (o : Oper), l[i]? = some o → o.dst ≠ some e.1 := fun e he i o ho => by
    have := List.all_eq_true.1 b5 e.1 (List.mem_map_of_mem he)
    have := List.all_eq_true.1 this o (List.mem_iff_getElem?.2 ⟨i, ho⟩)
    simpa using this
  have hbs' := all_mem hbs
  refine AW.anyI hP (fun L t' m' => m' = m ∧ (∀ i d v, acc[i]? = some (d, v) → L i = true → t' d = some v) ∧ ∀ e ∈ bs, t' e.1 = some e.2) b1
    ⟨rfl, fun i d v _ h => (by cases h), fun e he => hbs' e he⟩ ?_ ?_
  · rintro i o hi L t' m' ⟨rfl, c2, c3⟩ hLi hdeps
    obtain ⟨d, v, q1, q2, q3⟩ := a3' i o hi
    have hil := (List.getElem?_eq_some_iff.1 hi).1
    have hback := List.all_eq_true.1 b1 i (List.mem_range.2 hil)
    rw [hi] at hback
    simp only at hback
    refine (Step.weakF (fun s x hx => ?_) q2 q3).mono fun x m' hk => ?_
    · rcases List.mem_append.1 (fr_get hx) with hx | hx
      · obtain ⟨j, hj, he⟩ := List.mem_map.1 hx
        have hji : j < i := by simpa using List.all_eq_true.1 hback j hj
        have hja : j < acc.length := by omega
        have e : acc[j]? = some (s, x) := by
          have hlt : (acc.take i).length = i := by rw [List.length_take]; omega
          rw [List.getD_eq_getElem?_getD, List.getElem?_reverse (by omega), hlt, show i - 1 - (i - 1 - j) = j by omega, List.getElem?_take, if_pos hji, List.getElem?_eq_getElem hja] at he
          rw [List.getElem?_eq_getElem hja]
          simpa using he
        exact c2 j s x e (hdeps j hj)
      · exact c3 (s, x) hx
    · rw [q2] at hk ⊢
      simp only [putO] at hk ⊢
      obtain ⟨k1, rfl⟩ := hk
      rw [k1]
      refine ⟨rfl, fun j d' v' hj hLj => ?_, fun e he => ?_⟩
      · by_cases e : j = i
        · subst e
          rw [q1] at hj
          simp only [Option.some.injEq, Prod.mk.injEq] at hj
          obtain ⟨rfl, rfl⟩ := hj
          exact put_same ..
        · rw [upL_ne L e] at hLj
          have hjl : j < l.length := by have := (List.getElem?_eq_some_iff.1 hj).1; omega
          obtain ⟨d2, v2, w1, w2, _⟩ := a3' j _ (List.getElem?_eq_getElem hjl)
          rw [hj] at w1
          simp only [Option.some.injEq, Prod.mk.injEq] at w1
          obtain ⟨rfl, rfl⟩ := w1
          rw [put_ne]
          · exact c2 j d' v' hj hLj
          · rintro rfl
            exact hdiff j i _ o (List.getElem?_eq_getElem hjl) hi e (w2.trans q2.symm)
      · rw [put_ne]
        · exact c3 e he
        · intro q
          exact hkeys e he i o hi (by rw [q2, q])
  · rintro L t' m' hL ⟨rfl, c2, c3⟩
    refine h2 t' fun i v hi => ?_
    have hq : fr (acc.reverse ++ bs) i = some v := by
      exact all_mem a2 (i, v) (fr_get hi)
    rw [fr_app] at hq
    cases hfa : fr acc.reverse i with
    | some x =>
      rw [hfa] at hq
      simp only [Option.some.injEq] at hq
      subst hq
      obtain ⟨j, hj⟩ := List.mem_iff_getElem?.1 (List.mem_reverse.1 (fr_get hfa))
      exact c2 j i x hj (hL j (by have := (List.getElem?_eq_some_iff.1 hj).1; omega))
    | none =>
      rw [hfa] at hq
      simp only at hq
      exact c3 (i, v) (fr_get hq)
theorem putO_sub {t1 t : Fm} (hs : ∀ i v, t1 i = some v → t i = some v) (d : Option Tmp) (v : Value) : ∀ i x, putO t1 d v i = some x → putO t d v i = some x := by
  intro i x h
  cases d with
  | none => exact hs i x h
  | some d =>
    simp only [putO] at h ⊢
    by_cases e : i = d
    · subst e; rw [put_same] at h ⊢; exact h
    · rw [put_ne _ _ e] at h ⊢; exact hs i x h
/-- As flatB; the last operation may have no slot of its own, and may turn the memory. -/
def flatLB (l : List Oper) (ks : List Nat) (D : List (List Nat)) : Bool :=
  decide (D = backL l) && (Nat.blt 0 l.length && (backB l && ((l.map (·.dst)).Nodup && (((List.range (l.length - 1)).all fun i => (List.range l.length).any fun j => Nat.blt i j && match l[j]? with | some o => (depsO o).contains i | none => false) &&
    (ks.all fun k => (l.dropLast).all fun o => o.dst != some k)))))
/-- A region all of which leads to its last operation, which may turn the memory. -/
theorem AW.flatL (hP : Fit P) {id : Nat} {l' : List Oper} {last : Oper} {Q : AEx → Fm → AM → Prop} (bs : List (Nat × Value)) (ks : List Nat) (D : List (List Nat)) (hbs : All (fun i v => t i = some v) bs) (hks : bs.map (·.1) = ks) (hl : l = l' ++ [last]) (hb : flatLB l ks D = true)
    (h : AWf P nt m l.toArray bs l' D [] (fun acc => Step P nt l.toArray last (fr (acc ++ bs)) m (fun t1 m' => ∀ t2, (∀ i v, t1 i = some v → t2 i = some v) → Q .normal t2 m'))) : AW P nt m0 (.region id l.toArray true) t m Q := by
  subst hks
  simp only [flatLB, Bool.and_eq_true] at hb
  obtain ⟨bD, b0, b1, b3, b4, b5⟩ := hb
  have hn : 0 < l.length := by simpa using b0
  have eD : D = backL l := of_decide_eq_true bD
  obtain ⟨acc, a1, a2, a3⟩ := AWf.get h
  rw [List.append_nil] at a2
  have hll : l.length = l'.length + 1 := by rw [hl]; simp
  have hget : ∀ i, i < l'.length → l[i]? = l'[i]? := fun i hi => by rw [hl, List.getElem?_append_left hi]
  have hlast : l[l'.length]? = some last := by rw [hl, List.getElem?_append_right (Nat.le_refl _), Nat.sub_self]; rfl
  have a3' : ∀ i o, l'[i]? = some o → ∃ d v, acc[i]? = some (d, v) ∧ o.dst = some d ∧ Step P nt l.toArray o (fr ((depsO o).map (fun j => (acc.take i).reverse.getD (i - 1 - j) (0, undef)) ++ bs)) m (fun t' m' => t' d = some v ∧ m' = m) := fun i o hi => by
    obtain ⟨d, v, k1, k2, k3⟩ := a3 i o hi
    refine ⟨d, v, k1, k2, ?_⟩
    have hil' := (List.getElem?_eq_some_iff.1 hi).1
    have hil : i < l.length := by omega
    rw [← hget i hil'] at hi
    have : D.getD i [] = (depsO o).map fun j => i - 1 - j := by
      rw [eD]
      have ho : l[i] = o := by rw [List.getElem?_eq_getElem hil] at hi; injection hi
      simp [backL, hil, ho]
    rw [this, List.append_nil] at k3
    unfold depL at k3
    rw [List.map_map] at k3
    exact k3
  have hnd : (l.map (·.dst)).Nodup := by simpa using b3
  have hdiff : ∀ (i j : Nat) (o o' : Oper), l[i]? = some o → l[j]? = some o' → i ≠ j → o.dst ≠ o'.dst := fun i j o o' hi hj hij e => by
    have hi' := (List.getElem?_eq_some_iff.1 hi).1
    have hj' := (List.getElem?_eq_some_iff.1 hj).1
    have := (List.getElem_inj (h₀ := by simpa using hi') (h₁ := by simpa using hj') hnd).1 (by
      simp only [List.getElem_map]
      have e1 : l[i] = o := by rw [List.getElem?_eq_getElem hi'] at hi; injection hi
      have e2 : l[j] = o' := by rw [List.getElem?_eq_getElem hj'] at hj; injection hj
      rw [e1, e2, e])
    exact hij this
  have hall : ∀ (L : Nat → Bool), (∀ i o, l[i]? = some o → L i = true → ∀ j ∈ depsO o, L j = true) → L (l.length - 1) = true → ∀ i, i < l.length → L i = true := by
    intro L hc hl
    suffices H : ∀ k i, i < l.length → l.length - 1 - i ≤ k → L i = true from fun i hi => H _ i hi (Nat.le_refl _)
    intro k
    induction k with
    | zero => intro i hi hk; rw [show i = l.length - 1 by omega]; exact hl
    | succ k ih =>
      intro i hi hk
      by_cases e : i = l.length - 1
      · rw [e]; exact hl
      · have := List.all_eq_true.1 b4 i (List.mem_range.2 (by omega))
        obtain ⟨j, hj1, hj2⟩ := List.any_eq_true.1 this
        simp only [Bool.and_eq_true] at hj2
        obtain ⟨hj2, hj3⟩ := hj2
        have hij : i < j := by simpa using hj2
        have hjl := List.mem_range.1 hj1
        rw [List.getElem?_eq_getElem hjl] at hj3
        simp only at hj3
        have hLj := ih j hjl (by omega)
        exact hc j _ (List.getElem?_eq_getElem hjl) hLj i (by simpa using hj3)
  have hkeys : ∀ e ∈ bs, ∀ i o, i < l.length - 1 → l[i]? = some o → o.dst ≠ some e.1 := fun e he i o hi ho => by
    have := List.all_eq_true.1 b5 e.1 (List.mem_map_of_mem he)
    have := List.all_eq_true.1 this o (List.mem_iff_getElem?.2 ⟨i, by rw [List.getElem?_dropLast, if_pos hi]; exact ho⟩)
    simpa using this
  have hbs' := all_mem hbs
  have hsub : ∀ (L : Nat → Bool) (t' : Fm), (∀ i d v, acc[i]? = some (d, v) → L i = true → t' d = some v) → (∀ e ∈ bs, t' e.1 = some e.2) → ∀ (i : Nat) (A : List (Nat × Value)), (∀ e ∈ A, ∃ j, acc[j]? = some e ∧ L j = true) → ∀ s x, fr (A ++ bs) s = some x → t' s = some x := by
    intro L t' c2 c3 i A hA s x hx
    rcases List.mem_append.1 (fr_get hx) with hx | hx
    · obtain ⟨j, h1, h2⟩ := hA _ hx
      exact c2 j s x h1 h2
    · exact c3 (s, x) hx
  refine AW.anyI hP (fun L t' m' => (∀ i o, l[i]? = some o → L i = true → ∀ j ∈ depsO o, L j = true) ∧ ((L l'.length = false ∧ m' = m ∧ (∀ i d v, acc[i]? = some (d, v) → L i = true → t' d = some v) ∧ ∀ e ∈ bs, t' e.1 = some e.2) ∨ (L l'.length = true ∧ Q .normal t' m'))) b1
    ⟨fun i o _ h => (by cases h), .inl ⟨rfl, rfl, fun i d v _ h => (by cases h), fun e he => hbs' e he⟩⟩ ?_ ?_
  · rintro i o hi L t' m' ⟨c1, hor⟩ hLi hdeps
    have hil := (List.getElem?_eq_some_iff.1 hi).1
    have hLl : L l'.length = false := by
      cases e : L l'.length with
      | false => rfl
      | true => rw [hall L c1 (by rw [hll, Nat.add_sub_cancel]; exact e) i hil] at hLi; cases hLi
    rcases hor with ⟨_, rfl, c2, c3⟩ | ⟨hx, _⟩
    · have hback := List.all_eq_true.1 b1 i (List.mem_range.2 hil)
      rw [hi] at hback
      simp only at hback
      have hc1 : ∀ j o', l[j]? = some o' → upL L i j = true → ∀ k ∈ depsO o', upL L i k = true := fun j o' hj hLj k hk => by
        by_cases e : k = i
        · subst e; exact upL_same L k
        · rw [upL_ne L e]
          by_cases e' : j = i
          · subst e'
            rw [hi] at hj
            injection hj with hj
            subst hj
            exact hdeps k hk
          · rw [upL_ne L e'] at hLj
            exact c1 j o' hj hLj k hk
      rcases Nat.lt_or_ge i l'.length with hlt | hge
      · obtain ⟨d, v, q1, q2, q3⟩ := a3' i o (by rw [← hget i hlt]; exact hi)
        refine (Step.weakF (hsub L t' c2 c3 i _ fun e he => ?_) q2 q3).mono fun x m' hk => ?_
        · obtain ⟨j, hj, he⟩ := List.mem_map.1 he
          have hji : j < i := by simpa using List.all_eq_true.1 hback j hj
          have hja : j < acc.length := by omega
          refine ⟨j, ?_, hdeps j hj⟩
          have hlt : (acc.take i).length = i := by rw [List.length_take]; omega
          rw [List.getD_eq_getElem?_getD, List.getElem?_reverse (by omega), hlt, show i - 1 - (i - 1 - j) = j by omega, List.getElem?_take, if_pos hji, List.getElem?_eq_getElem hja] at he
          rw [List.getElem?_eq_getElem hja]
          simpa using he
        · rw [q2] at hk ⊢
          simp only [putO] at hk ⊢
          obtain ⟨k1, rfl⟩ := hk
          rw [k1]
          refine ⟨hc1, .inl ⟨by rw [upL_ne L (by omega)]; exact hLl, rfl, fun j d' v' hj hLj => ?_, fun e he => ?_⟩⟩
          · by_cases e : j = i
            · subst e
              rw [q1] at hj
              simp only [Option.some.injEq, Prod.mk.injEq] at hj
              obtain ⟨rfl, rfl⟩ := hj
              exact put_same ..
            · rw [upL_ne L e] at hLj
              have hjl : j < l'.length := by have := (List.getElem?_eq_some_iff.1 hj).1; omega
              obtain ⟨d2, v2, w1, w2, _⟩ := a3' j _ (List.getElem?_eq_getElem hjl)
              rw [hj] at w1
              simp only [Option.some.injEq, Prod.mk.injEq] at w1
              obtain ⟨rfl, rfl⟩ := w1
              rw [put_ne]
              · exact c2 j d' v' hj hLj
              · rintro rfl
                exact hdiff j i _ o (by rw [hget j hjl]; exact List.getElem?_eq_getElem hjl) hi e (w2.trans q2.symm)
          · rw [put_ne]
            · exact c3 e he
            · intro q
              exact hkeys e he i o (by omega) hi (by rw [q2, q])
      · obtain rfl : i = l'.length := by omega
        rw [hlast] at hi
        injection hi with hi
        subst hi
        have hallL : ∀ j, j < l'.length → L j = true := by
          have hup := hall (upL L l'.length) hc1 (by rw [hll, Nat.add_sub_cancel]; exact upL_same ..)
          intro j hj
          have := hup j (by omega)
          rwa [upL_ne L (by omega)] at this
        have hs' := hsub L t' c2 c3 0 acc.reverse fun e he => by
          obtain ⟨j, hj⟩ := List.mem_iff_getElem?.1 (List.mem_reverse.1 he)
          exact ⟨j, hj, hallL j (by have := (List.getElem?_eq_some_iff.1 hj).1; omega)⟩
        refine Step.weakK hs' (fun v m' hk => ?_) a2
        exact ⟨hc1, .inr ⟨upL_same .., hk _ (putO_sub hs' _ _)⟩⟩
    · rw [hLl] at hx; cases hx
  · rintro L t' m' hL ⟨c1, hor⟩
    rcases hor with ⟨h1, _⟩ | ⟨_, h1⟩
    · rw [hL _ (by omega)] at h1; cases h1
    · exact h1
end
def AWfL (P : Program) (nt : Nat) (m : AM) (ops : Array Oper) (bs : List (Nat × Value)) (K : Fm → AM → Prop) : List Oper → List (List Nat) → List (Nat × Value) → Prop
  | [], _, _ => False
  | [o], _, acc => Step P nt ops o (fr (acc ++ bs)) m K
  | o :: o' :: rest, D, acc => ∃ d v, o.dst = some d ∧ Step P nt ops o (fr (depL acc (D.headD []) ++ bs)) m (fun t' m' => t' d = some v ∧ m' = m) ∧ AWfL P nt m ops bs K (o' :: rest) D.tail ((d, v) :: acc)
section
variable {P : Program} {nt : Nat} {t : Fm} {m m0 : AM} {l : List Oper} {bs : List (Nat × Value)} {K : Fm → AM → Prop}
theorem AWfL.cons {ops : Array Oper} {o o' : Oper} {rest : List Oper} {dd : List Nat} {D : List (List Nat)} {acc : List (Nat × Value)} {d : Nat} {v : Value} (hd : o.dst = some d) (h : Step P nt ops o (fr (depL acc dd ++ bs)) m (fun t' m' => t' d = some v ∧ m' = m)) (hr : AWfL P nt m ops bs K (o' :: rest) D ((d, v) :: acc)) :
    AWfL P nt m ops bs K (o :: o' :: rest) (dd :: D) acc := ⟨d, v, hd, h, hr⟩
theorem AWfL.last {ops : Array Oper} {o : Oper} {D : List (List Nat)} {acc : List (Nat × Value)} (h : Step P nt ops o (fr (acc ++ bs)) m K) : AWfL P nt m ops bs K [o] D acc := h
theorem AWfL.split {ops : Array Oper} : ∀ {l : List Oper} {D : List (List Nat)} {acc : List (Nat × Value)}, AWfL P nt m ops bs K l D acc → ∃ l' last, l = l' ++ [last] ∧ AWf P nt m ops bs l' D acc (fun acc => Step P nt ops last (fr (acc ++ bs)) m K)
  | [], _, _, h => h.elim
  | [o], D, acc, h => ⟨[], o, rfl, h⟩
  | o :: o' :: rest, D, acc, h => by
    obtain ⟨d, v, hd, h1, h2⟩ := h
    obtain ⟨l', last, e, h3⟩ := AWfL.split h2
    exact ⟨o :: l', last, by rw [e]; rfl, d, v, hd, h1, h3⟩
theorem AW.flatM (hP : Fit P) {id : Nat} {Q : AEx → Fm → AM → Prop} (bs : List (Nat × Value)) (ks : List Nat) (D : List (List Nat)) (hbs : All (fun i v => t i = some v) bs) (hks : bs.map (·.1) = ks) (hb : flatLB l ks D = true)
    (h : AWfL P nt m l.toArray bs (fun t1 m' => ∀ t2, (∀ i v, t1 i = some v → t2 i = some v) → Q .normal t2 m') l D []) : AW P nt m0 (.region id l.toArray true) t m Q := by
  obtain ⟨l', last, e, h1⟩ := h.split
  exact AW.flatL hP bs ks D hbs hks e hb h1
end
/-- The call's own blocks are let go, the others may have been turned since. -/
theorem Gc.cut {t : Fm} {m0 M L : AM} {l : List (Nat × Value)} (hl : m0.length ≤ M.length) (hM : ∀ (j : Nat) (b : Blk), M[j]? = some (some b) → (j < m0.length ∧ m0[j]? = some (some b)) ∨ (isMapK b.kind = false ∧ ∀ v ∈ b.cells, Ren rid M.length v v)) (h : All (fun i v => t i = some v ∧ Ren rid M.length v v) l) : Gc m0 t (M ++ L) (fr l) M :=
  ⟨rid, hl, fun _ _ => rfl, fun _ _ _ _ _ _ e => e, fun j b hj => by
    rcases hM j b hj with ⟨h1, h2⟩ | ⟨h1, h2⟩
    · exact .inl ⟨h1, get_old L hj, h2⟩
    · exact .inr ⟨h1, b, get_old L hj, rfl, rfl, rfl, fun k v hk => ⟨v, hk, h2 v (List.mem_of_getElem? hk)⟩⟩, fun i v hi => by
    obtain ⟨h1, h2⟩ := fr_all h i v hi
    exact ⟨v, h1, h2⟩⟩
theorem Step.callVM {P : Program} {nt : Nat} {ops : Array Oper} {t : Fm} {m m' : AM} {K : Fm → AM → Prop} {d T : Nat} {p : String} {af : Array Edge} {x : Operand} {args : Array Operand} {tys : Array TypeId} {g : FuncId} {f c : Array Value} {vs : List Value} {fn : Func} {b : Code} {r : Value} (hP : Fit P) (hx : evo t x = some (.func (.func g) f c)) (ha : evL t args.toList = some vs) (hf : P.funcs[g]? = some fn) (hb : fn.body = some b)
    (hlt : Nat.blt d nt = true) (h : ACall P g (f ++ vs.toArray ++ c) m (Ret r m')) (hK : K (put t d r) m') : Step P nt ops ⟨some d, .call ⟨.value x, args, tys⟩, T, p, af, none⟩ t m K :=
  .call hP hx ha hf hb hlt h (by rintro v m1 ⟨rfl, rfl⟩; exact hK)
end Go.Proofs.YtedbjmgchfgabaaDoor.Abs
