/- Proved here: what the proof of TopQueue rests on, part 6 of 6. Conditions: those that each theorem names. -/
import Derived.Test.YtedbjmgchfgabaaDoorTopQueueK5
namespace Go.Proofs.YtedbjmgchfgabaaDoor.Abs
set_option linter.unusedSimpArgs false
set_option linter.unusedVariables false
open Go.Proofs
section
variable {B : Brd} {K : List Kd}
/-- The plan of the rule is a plan. -/
theorem rd_plan (hg : goodB B K = true) : ∀ (f : Nat) (r : R4), r.ok (bw B) (bh B) → r.size ≤ f → ∀ q : List Nd, ∃ l, rdM B K f r (plM B K f r ++ q) = some (l, q) ∧ worthL K l = V (leafM B K) r
  | 0, r, hr, hs, _ => by unfold R4.ok at hr; unfold R4.size at hs; omega
  | f + 1, r, hr, hs, q => by
    have cut : ∀ d, lq (ctQ B K r d) (r.len d - 1) < r.len d - 1 → ∃ l, rdM B K (f + 1) r ((((opI d, ((lq (ctQ B K r d) (r.len d - 1) + 1 : Nat) : Int), false) : Nd) :: (plM B K f (r.lo d (lq (ctQ B K r d) (r.len d - 1) + 1)) ++ plM B K f (r.hi d (lq (ctQ B K r d) (r.len d - 1) + 1)))) ++ q) = some (l, q) ∧ worthL K l = V (leafM B K) r := fun d hd => by
      have hq := lq_at hd
      generalize lq (ctQ B K r d) (r.len d - 1) = i at *
      unfold ctQ at hq
      rw [decide_eq_true_eq] at hq
      have h1 : 1 ≤ i + 1 := by omega
      have h2 : i + 1 + 1 ≤ r.len d := by omega
      obtain ⟨l2, e2, w2⟩ := rd_plan hg f _ (hi_ok hr h1 h2) (by have := hi_size hr h1 h2; omega) q
      obtain ⟨l1, e1, w1⟩ := rd_plan hg f _ (lo_ok hr h1 h2) (by have := lo_size hr h1 h2; omega) (plM B K f (r.hi d (i + 1)) ++ q)
      refine ⟨l1 ++ l2, ?_, by rw [worthL_app, w1, w2, hq]⟩
      rw [List.cons_append, List.append_assoc, rd_docut d h1 h2, e1]
      simp only
      rw [e2]
    simp only [plM]
    by_cases c0 : V (leafM B K) r = 0
    · rw [if_pos c0]
      exact ⟨[], by rw [List.cons_append, rd_waste rfl, if_pos ⟨rfl, rfl⟩]; rfl, by rw [c0]; rfl⟩
    · rw [if_neg c0]
      by_cases c1 : lq (pkQ B K r) K.length < K.length
      · rw [if_pos c1]
        have hq := lq_at c1
        generalize lq (pkQ B K r) K.length = k at *
        unfold pkQ at hq
        rw [Bool.and_eq_true, decide_eq_true_eq] at hq
        refine ⟨[(k, r, turnedB (K.getD k default) r)], ?_, ?_⟩
        · rw [List.cons_append, rd_piece rfl]
          simp only [Int.toNat_natCast, List.nil_append]
          rw [if_pos ⟨by omega, by omega, hq.1, trivial⟩]
        · simp only [worthL]
          omega
      · rw [if_neg c1]
        by_cases c2 : lq (ctQ B K r true) (r.len true - 1) < r.len true - 1
        · rw [if_pos c2]
          exact cut true c2
        · rw [if_neg c2]
          have c3 := plan_open hr c0 c1 c2
          rw [if_pos c3]
          exact cut false c3
/-- A plan has no more nodes than twice the cells. -/
theorem plM_area : ∀ (f : Nat) (r : R4), r.ok (bw B) (bh B) → r.size ≤ f → (plM B K f r).length + 1 ≤ 2 * (r.a * r.b)
  | 0, r, hr, hs => by unfold R4.ok at hr; unfold R4.size at hs; omega
  | f + 1, r, hr, hs => by
    have hp : 1 ≤ r.a * r.b := by
      unfold R4.ok at hr
      exact Nat.mul_pos (by omega) (by omega)
    have cut : ∀ d, lq (ctQ B K r d) (r.len d - 1) < r.len d - 1 → (plM B K f (r.lo d (lq (ctQ B K r d) (r.len d - 1) + 1)) ++ plM B K f (r.hi d (lq (ctQ B K r d) (r.len d - 1) + 1))).length + 1 + 1 ≤ 2 * (r.a * r.b) := fun d hd => by
      generalize lq (ctQ B K r d) (r.len d - 1) = i at *
      have h1 : 1 ≤ i + 1 := by omega
      have h2 : i + 1 + 1 ≤ r.len d := by omega
      have e1 := plM_area f _ (hi_ok hr h1 h2) (by have := hi_size hr h1 h2; omega)
      have e2 := plM_area f _ (lo_ok hr h1 h2) (by have := lo_size hr h1 h2; omega)
      have e3 : (r.lo d (i + 1)).a * (r.lo d (i + 1)).b + (r.hi d (i + 1)).a * (r.hi d (i + 1)).b = r.a * r.b := by
        unfold R4.lo R4.hi R4.len at *
        cases d
        · simp only [Bool.false_eq_true, if_false] at *
          rw [← Nat.mul_add]; congr 1; omega
        · simp only [if_true] at *
          rw [← Nat.add_mul]; congr 1; omega
      rw [List.length_append]
      omega
    simp only [plM]
    split
    · simp only [List.length_cons, List.length_nil]; omega
    · split
      · simp only [List.length_cons, List.length_nil]; omega
      · split
        · rename_i c
          exact cut true c
        · split
          · rename_i c
            exact cut false c
          · simp only [List.length_nil]; omega
theorem planM_le (hg : goodB B K = true) : (planM B K).length ≤ 512 := by
  have hgb : boardB B = true := by simp only [goodB, Bool.and_eq_true] at hg; exact hg.1
  have hin := good_in hgb
  have hok : (wholeR B).ok (bw B) (bh B) := by
    simp only [R4.ok, wholeR]
    omega
  have h1 := plM_area (K := K) 32 (wholeR B) hok (by simp only [R4.size, wholeR]; omega)
  have h2 : (wholeR B).a * (wholeR B).b ≤ 16 * 16 := Nat.mul_le_mul hin.2.2.2 hin.2.1
  unfold planM
  omega
theorem best_V (hg : goodB B K = true) : bestM B K = V (leafM B K) (wholeR B) := by
  have hgb : boardB B = true := by simp only [goodB, Bool.and_eq_true] at hg; exact hg.1
  have hin := good_in hgb
  have hok : (wholeR B).ok (bw B) (bh B) := by
    simp only [R4.ok, wholeR]
    omega
  exact (bestT_ok (leaf := leafM B K) hin.2.2.2 hin.2.1).dn _ hok
theorem inR_lo {r : R4} {d : Bool} {i u v : Nat} (h2 : i + 1 ≤ r.len d) (h : inR (r.lo d i) u v = true) : inR r u v = true := by
  unfold inR at *
  rw [decide_eq_true_eq] at *
  unfold R4.lo R4.len at *
  cases d <;> simp only [if_true, Bool.false_eq_true, if_false] at * <;> omega
theorem inR_hi {r : R4} {d : Bool} {i u v : Nat} (h2 : i + 1 ≤ r.len d) (h : inR (r.hi d i) u v = true) : inR r u v = true := by
  unfold inR at *
  rw [decide_eq_true_eq] at *
  unfold R4.hi R4.len at *
  cases d <;> simp only [if_true, Bool.false_eq_true, if_false] at * <;> omega
theorem inR_parts {r : R4} {d : Bool} {i u v : Nat} (h2 : i + 1 ≤ r.len d) : ¬ (inR (r.lo d i) u v = true ∧ inR (r.hi d i) u v = true) := by
  unfold inR
  rw [decide_eq_true_eq, decide_eq_true_eq]
  unfold R4.lo R4.hi R4.len at *
  cases d <;> simp only [if_true, Bool.false_eq_true, if_false] at * <;> omega
theorem rdM_inr : ∀ (f : Nat) {r : R4} {p p' : List Nd} {l : List Plc}, rdM B K f r p = some (l, p') → ∀ x ∈ l, ∀ u v, inR x.2.1 u v = true → inR r u v = true
  | 0, _, _, _, _, h => by simp [rdM] at h
  | _ + 1, _, [], _, _, h => by simp [rdM] at h
  | f + 1, r, n :: p, p', l, h => by
    rcases rdM_cut h with ⟨rfl, rfl⟩ | ⟨k, _, _, _, rfl, rfl⟩ | ⟨d, i, l1, p1, l2, i1, i2, e1, e2, rfl⟩
    · intro x hx; simp at hx
    · intro x hx u v hu
      simp at hx
      subst hx
      exact hu
    · intro x hx u v hu
      rcases List.mem_append.1 hx with hx | hx
      · exact inR_lo i2 (rdM_inr f e1 x hx u v hu)
      · exact inR_hi i2 (rdM_inr f e2 x hx u v hu)
/-- Two pieces have no cell in common. -/
def Apart (x y : Plc) : Prop := ∀ u v, ¬ (inR x.2.1 u v = true ∧ inR y.2.1 u v = true)
theorem rdM_pw : ∀ (f : Nat) {r : R4} {p p' : List Nd} {l : List Plc}, rdM B K f r p = some (l, p') → l.Pairwise Apart
  | 0, _, _, _, _, h => by simp [rdM] at h
  | _ + 1, _, [], _, _, h => by simp [rdM] at h
  | f + 1, r, n :: p, p', l, h => by
    rcases rdM_cut h with ⟨rfl, rfl⟩ | ⟨k, _, _, _, rfl, rfl⟩ | ⟨d, i, l1, p1, l2, i1, i2, e1, e2, rfl⟩
    · exact List.Pairwise.nil
    · exact List.pairwise_singleton _ _
    · refine List.pairwise_append.2 ⟨rdM_pw f e1, rdM_pw f e2, fun x hx y hy u v hu => inR_parts i2 ⟨rdM_inr f e1 x hx u v hu.1, rdM_inr f e2 y hy u v hu.2⟩⟩
end
theorem rdg_plan {B : Brd} {K : List Kd} (hg : goodB B K = true) : ∃ l, rdgM B K (planM B K) = (l, 0) ∧ worthL K l = bestM B K ∧ l.Pairwise Apart := by
  have hgb : boardB B = true := by simp only [goodB, Bool.and_eq_true] at hg; exact hg.1
  have hin := good_in hgb
  have hok : (wholeR B).ok (bw B) (bh B) := by
    simp only [R4.ok, wholeR]
    omega
  obtain ⟨l, h1, h2⟩ := rd_plan hg 32 (wholeR B) hok (by simp only [R4.size, wholeR]; omega) []
  rw [List.append_nil] at h1
  refine ⟨l, ?_, by rw [h2, best_V hg], rdM_pw 32 h1⟩
  unfold rdgM planM
  rw [if_pos hg, h1]
section
variable {B B' : Brd} {g : Int}
end
section
variable {B : Brd} {K : List Kd}
end
def metL (w h : Nat) (l : List Plc) (i : Nat) (r : R4) (j : Nat) : List Bool := (List.range (h * w)).map fun n => (l.take i).any (fun p => inR p.2.1 (n % w) (n / w)) || (inR r (n % w) (n / w) && decide ((n / w - r.y) * r.a + (n % w - r.x) < j))
theorem metL_len (w h : Nat) (l : List Plc) (i : Nat) (r : R4) (j : Nat) : (metL w h l i r j).length = h * w := by simp [metL]
/-- The j-th cell of a rectangle. -/
theorem cell_at {r : R4} {w h j : Nat} (hr : r.ok w h) (hj : j < r.a * r.b) : r.y + j / r.a < h ∧ r.x + j % r.a < w ∧ inR r (r.x + j % r.a) (r.y + j / r.a) = true ∧ ((r.y + j / r.a) * w + r.x + j % r.a) % w = r.x + j % r.a ∧ ((r.y + j / r.a) * w + r.x + j % r.a) / w = r.y + j / r.a ∧ (r.y + j / r.a) * w + r.x + j % r.a < h * w := by
  unfold R4.ok at hr
  have h1 : j / r.a < r.b := Nat.div_lt_of_lt_mul hj
  have h2 : j % r.a < r.a := Nat.mod_lt _ (by omega)
  generalize j / r.a = q at *
  generalize j % r.a = s at *
  have h3 : r.x + s < w := by omega
  have h4 : r.y + q < h := by omega
  refine ⟨h4, h3, decide_eq_true (by omega), ?_, ?_, ?_⟩
  · rw [Nat.add_assoc, Nat.mul_comm, Nat.mul_add_mod, Nat.mod_eq_of_lt h3]
  · rw [Nat.add_assoc, Nat.mul_comm, Nat.mul_add_div (by omega), Nat.div_eq_of_lt h3, Nat.add_zero]
  · have : (r.y + q + 1) * w ≤ h * w := Nat.mul_le_mul_right _ h4
    rw [Nat.add_mul, Nat.one_mul] at this
    omega
theorem metL_set {r : R4} {w h j i : Nat} {l : List Plc} (hr : r.ok w h) (hj : j < r.a * r.b) : (metL w h l i r j).set ((r.y + j / r.a) * w + r.x + j % r.a) true = metL w h l i r (j + 1) := by
  obtain ⟨c1, c2, c3, c4, c5, c6⟩ := cell_at hr hj
  have hj2 : j / r.a * r.a + j % r.a = j := by rw [Nat.mul_comm]; exact Nat.div_add_mod j r.a
  apply List.ext_getElem
  · simp [metL]
  · intro n h1 h2
    simp only [metL, List.length_set, List.length_map, List.length_range] at h1
    rw [List.getElem_set]
    by_cases e : (r.y + j / r.a) * w + r.x + j % r.a = n
    · subst e
      rw [if_pos rfl]
      simp only [metL, List.getElem_map, List.getElem_range, c4, c5, c3]
      rw [Nat.add_sub_cancel_left, Nat.add_sub_cancel_left, hj2, decide_eq_true (Nat.lt_succ_self j)]
      simp
    · rw [if_neg e]
      simp only [metL, List.getElem_map, List.getElem_range]
      congr 1
      have hdm : n / w * w + n % w = n := by rw [Nat.mul_comm]; exact Nat.div_add_mod n w
      generalize n / w = u at *
      generalize n % w = v at *
      cases hin : inR r v u with
      | false => rfl
      | true =>
        rw [Bool.true_and, Bool.true_and]
        unfold inR at hin
        rw [decide_eq_true_eq] at hin
        obtain ⟨q1, q2, q3, q4⟩ := hin
        have hne : ¬ (u - r.y) * r.a + (v - r.x) = j := fun he => by
          have hm : j % r.a = v - r.x := by
            rw [← he, Nat.mul_comm, Nat.mul_add_mod, Nat.mod_eq_of_lt (by omega)]
          have hdv : j / r.a = u - r.y := by
            rw [← he, Nat.mul_comm, Nat.mul_add_div (by omega), Nat.div_eq_of_lt (by omega), Nat.add_zero]
          apply e
          rw [hm, hdv, show r.y + (u - r.y) = u by omega]
          omega
        rw [Bool.eq_iff_iff, decide_eq_true_eq, decide_eq_true_eq]
        omega
end Go.Proofs.YtedbjmgchfgabaaDoor.Abs
namespace Go.Proofs.YtedbjmgchfgabaaDoor.Abs
set_option linter.unusedSimpArgs false
set_option linter.unusedVariables false
open Go.RowKit
open Go.Proofs.YtedbjmgchfgabaaDoor.Sim
/-- What an operation comes to: a value; a new block with the value that names it; a block made here is filled. -/
inductive Ent | val (d : Nat) (v : Value) | cp (d k : Nat) (f : Nat → Value) | mk (d : Nat) (f : Nat → Value) (b : Option Blk) | fill (k : Nat) (b : Option Blk)
def Ent.pr (p : Nat → Nat) (i : Nat) : Ent → List (Nat × Value)
  | .val d v => [(d, v)]
  | .cp d k f => [(d, f (p k))]
  | .mk d f _ => [(d, f (p i))]
  | .fill .. => []
/-- Of a list with the last one ahead: the n-th from behind. -/
def depG (p : Nat → Nat) (acc : List Ent) (D : List Nat) : List (Nat × Value) := D.flatMap fun j => (acc.getD j (.fill 0 none)).pr p (acc.length - 1 - j)
def fillOf (k : Nat) : List Ent → Option (Option Blk)
  | [] => none
  | .fill j b :: acc => if j = k then some b else fillOf k acc
  | _ :: acc => fillOf k acc
section
variable (P : Program) (nt : Nat) (m : AM) (ops : Array Oper) (bs : List (Nat × Value))
def EntOk (o : Oper) (dd : List Nat) (acc : List Ent) : Ent → Prop
  | .val d v => o.dst = some d ∧ ∀ p : Nat → Nat, (∀ k, m.length ≤ p k) → ∀ N : AM, Step P nt ops o (fr (depG p acc dd ++ bs)) (m ++ N) (fun t' m' => t' d = some v ∧ m' = m ++ N)
  | .cp d k f => o.dst = some d ∧ k < acc.length ∧ acc.length - 1 - k ∈ dd ∧ ∀ p : Nat → Nat, (∀ k, m.length ≤ p k) → ∀ N : AM, Step P nt ops o (fr (depG p acc dd ++ bs)) (m ++ N) (fun t' m' => t' d = some (f (p k)) ∧ m' = m ++ N)
  | .mk d f b => o.dst = some d ∧ ∀ p : Nat → Nat, (∀ k, m.length ≤ p k) → ∀ N : AM, Step P nt ops o (fr (depG p acc dd ++ bs)) (m ++ N) (fun t' m' => t' d = some (f (m ++ N).length) ∧ m' = (m ++ N) ++ [b])
  | .fill k b => o.dst = none ∧ fillOf k acc = none ∧ k < acc.length ∧ acc.length - 1 - k ∈ dd ∧ ∃ d f b0, acc[acc.length - 1 - k]? = some (.mk d f b0) ∧
      ∀ p : Nat → Nat, (∀ k, m.length ≤ p k) → ∀ M : AM, M[p k]? = some b0 → Step P nt ops o (fr (depG p acc dd ++ bs)) M (fun _ m' => m' = M.set (p k) b)
def AWg : List Oper → List (List Nat) → List Ent → (List Ent → Prop) → Prop
  | [], _, acc, Q => Q acc
  | o :: rest, D, acc, Q => ∃ e, EntOk P nt m ops bs o (D.headD []) acc e ∧ AWg rest D.tail (e :: acc) Q
end
section
variable {P : Program} {nt : Nat} {t : Fm} {m m0 : AM} {ops : Array Oper} {l : List Oper} {bs : List (Nat × Value)} {o : Oper} {rest : List Oper} {dd : List Nat} {D : List (List Nat)} {acc : List Ent} {Q : List Ent → Prop} {d : Nat} {v : Value}
theorem AWg.val (hd : o.dst = some d) (h : ∀ p : Nat → Nat, (∀ k, m.length ≤ p k) → ∀ N : AM, Step P nt ops o (fr (depG p acc dd ++ bs)) (m ++ N) (fun t' m' => t' d = some v ∧ m' = m ++ N)) (hr : AWg P nt m ops bs rest D (.val d v :: acc) Q) : AWg P nt m ops bs (o :: rest) (dd :: D) acc Q := ⟨.val d v, ⟨hd, h⟩, hr⟩
theorem AWg.ptr {b : Option Blk} (hd : o.dst = some d) (h : ∀ p : Nat → Nat, (∀ k, m.length ≤ p k) → ∀ N : AM, Step P nt ops o (fr (depG p acc dd ++ bs)) (m ++ N) (fun t' m' => t' d = some (.pointer (some ⟨(m ++ N).length, 0, none⟩)) ∧ m' = (m ++ N) ++ [b])) (hr : AWg P nt m ops bs rest D (.mk d (fun a => .pointer (some ⟨a, 0, none⟩)) b :: acc) Q) : AWg P nt m ops bs (o :: rest) (dd :: D) acc Q := ⟨.mk d (fun a => .pointer (some ⟨a, 0, none⟩)) b, ⟨hd, h⟩, hr⟩
theorem AWg.new (f : Nat → Value) {b : Option Blk} (hd : o.dst = some d) (h : ∀ p : Nat → Nat, (∀ k, m.length ≤ p k) → ∀ N : AM, Step P nt ops o (fr (depG p acc dd ++ bs)) (m ++ N) (fun t' m' => t' d = some (f (m ++ N).length) ∧ m' = (m ++ N) ++ [b])) (hr : AWg P nt m ops bs rest D (.mk d f b :: acc) Q) : AWg P nt m ops bs (o :: rest) (dd :: D) acc Q := ⟨.mk d f b, ⟨hd, h⟩, hr⟩
theorem AWg.fill (k : Nat) {d0 : Nat} {f0 : Nat → Value} {b b0 : Option Blk} (hd : o.dst = none) (h1 : fillOf k acc = none) (h2 : k < acc.length) (h3 : acc.length - 1 - k ∈ dd) (h4 : acc[acc.length - 1 - k]? = some (.mk d0 f0 b0))
    (h : ∀ p : Nat → Nat, (∀ k, m.length ≤ p k) → ∀ M : AM, M[p k]? = some b0 → Step P nt ops o (fr (depG p acc dd ++ bs)) M (fun _ m' => m' = M.set (p k) b)) (hr : AWg P nt m ops bs rest D (.fill k b :: acc) Q) : AWg P nt m ops bs (o :: rest) (dd :: D) acc Q := ⟨.fill k b, ⟨hd, h1, h2, h3, d0, f0, b0, h4, h⟩, hr⟩
section
variable {T : Nat} {pos : String} {af : Array Edge} {ty : TypeId} {b b0 : Option Blk}
end
theorem AWg.nil (h : Q acc) : AWg P nt m ops bs [] D acc Q := h
theorem AWg.get : ∀ {rest : List Oper} {D : List (List Nat)} {acc : List Ent} {Q : List Ent → Prop}, AWg P nt m ops bs rest D acc Q → ∃ a1 : List Ent, a1.length = rest.length ∧ Q (a1.reverse ++ acc) ∧ ∀ i o, rest[i]? = some o → ∃ e, a1[i]? = some e ∧ EntOk P nt m ops bs o (D.getD i []) ((a1.take i).reverse ++ acc) e
  | [], _, acc, Q, h => ⟨[], rfl, h, fun i o ho => by simp at ho⟩
  | o :: rest, D, acc, Q, h => by
    obtain ⟨e, h1, h2⟩ := h
    obtain ⟨a1, g1, g2, g3⟩ := AWg.get h2
    refine ⟨e :: a1, by simp [g1], by rw [List.reverse_cons, List.append_assoc]; exact g2, fun i o' ho => ?_⟩
    cases i with
    | zero =>
      simp only [List.getElem?_cons_zero, Option.some.injEq] at ho
      subst ho
      refine ⟨e, rfl, ?_⟩
      rw [List.take_zero, List.reverse_nil, List.nil_append]
      cases D <;> exact h1
    | succ i =>
      simp only [List.getElem?_cons_succ] at ho ⊢
      obtain ⟨e', k1, k2⟩ := g3 i o' ho
      refine ⟨e', k1, ?_⟩
      rw [List.take_succ_cons, List.reverse_cons, List.append_assoc]
      have : D.tail.getD i [] = D.getD (i + 1) [] := by cases D <;> simp
      rw [this] at k2
      exact k2
end
end Go.Proofs.YtedbjmgchfgabaaDoor.Abs
namespace Go.Proofs.YtedbjmgchfgabaaDoor.Abs
set_option linter.unusedSimpArgs false
set_option linter.unusedVariables false
open Go.RowKit
open Go.Proofs.YtedbjmgchfgabaaDoor.Sim
/-- A slice that names a whole row of one's own: n elements of s cells each. -/
def Row (M : AM) (b0 s : Nat) (u : Value) (c : List Value) (n : Nat) : Prop :=
  (u = .slice none 0 0 ∧ c = [] ∧ n = 0) ∨ ∃ (a : Nat) (kd : Kind) (sz : Nat), b0 ≤ a ∧ u = .slice (some ⟨a, 0, none⟩) n n ∧ M[a]? = some (some { cells := c, kind := kd, size := sz }) ∧ c.length = n * s ∧ (kd = .own ∨ kd = .grow ∧ sz = s)
theorem Row.len {M : AM} {b0 s : Nat} {u : Value} {c : List Value} {n : Nat} (h : Row M b0 s u c n) : c.length = n * s := by
  rcases h with ⟨_, rfl, rfl⟩ | ⟨a, kd, sz, _, _, _, h, _⟩
  · simp
  · exact h
theorem Row.nil {M : AM} {b0 s : Nat} : Row M b0 s (.slice none 0 0) [] 0 := .inl ⟨rfl, rfl, rfl⟩
theorem Row.low {M : AM} {b0 b1 s : Nat} {u : Value} {c : List Value} {n : Nat} (h : Row M b0 s u c n) (hb : b1 ≤ b0) : Row M b1 s u c n := by
  rcases h with h | ⟨a, kd, sz, h1, h2⟩
  · exact .inl h
  · exact .inr ⟨a, kd, sz, by omega, h2⟩
theorem Row.old {M : AM} {b0 s : Nat} {u : Value} {c : List Value} {n : Nat} (h : Row M b0 s u c n) (T : AM) : Row (M ++ T) b0 s u c n := by
  rcases h with h | ⟨a, kd, sz, h1, h2, h3, h4⟩
  · exact .inl h
  · exact .inr ⟨a, kd, sz, h1, h2, get_old _ h3, h4⟩
theorem Row.sl {M : AM} {b0 s : Nat} {u : Value} {c : List Value} {n : Nat} (h : Row M b0 s u c n) (hM : 0 < M.length) : ∃ a, Sl u a 0 n ∧ a < M.length ∧ (0 < n → RdL M a 0 c) := by
  rcases h with ⟨rfl, rfl, rfl⟩ | ⟨a, kd, sz, h1, rfl, h3, h4, _⟩
  · exact ⟨0, .inl ⟨rfl, rfl⟩, hM, fun h => absurd h (by omega)⟩
  · exact ⟨a, Sl.mk (Nat.le_refl _), (List.getElem?_eq_some_iff.1 h3).1, fun _ => ⟨_, h3, fun j v hj => by simpa using hj⟩⟩
/-- The block is the only one that an append may take. -/
def NotOf (u : Value) (j : Nat) : Prop := ∀ n c, u ≠ .slice (some ⟨j, 0, none⟩) n c
theorem NotOf.row {M : AM} {b0 s : Nat} {u : Value} {c : List Value} {n j : Nat} (h : Row M b0 s u c n) (hj : j < b0) : NotOf u j := by
  intro n' c' e
  rcases h with ⟨h, _⟩ | ⟨a, kd, sz, h1, h2, _⟩
  · rw [e] at h; cases h
  · rw [e] at h2
    simp only [Value.slice.injEq, Option.some.injEq, Addr.mk.injEq] at h2
    omega
/-- What lies ahead is as it was. -/
theorem pre_keep {m0 M M' : AM} (h : ∃ N, M = m0 ++ N) (hl : M.length ≤ M'.length) (hk : ∀ j, j < m0.length → M'[j]? = M[j]?) : ∃ N, M' = m0 ++ N := by
  obtain ⟨N, rfl⟩ := h
  refine ⟨M'.drop m0.length, ?_⟩
  rw [List.length_append] at hl
  have e : M'.take m0.length = m0 := by
    apply List.ext_getElem?
    intro j
    by_cases hj : j < m0.length
    · rw [List.getElem?_take, if_pos hj, hk j hj, List.getElem?_append_left hj]
    · rw [List.getElem?_eq_none (by rw [List.length_take]; omega), List.getElem?_eq_none (by omega)]
  have h2 := List.take_append_drop m0.length M'
  rw [e] at h2
  exact h2.symm
section
variable {P : Program} {nt : Nat} {ops : Array Oper} {t : Fm} {m : AM} {K : Fm → AM → Prop} {d T : Nat} {p : String} {af : Array Edge}
theorem acells_sl {m : AM} {s n a o : Nat} {v : Value} {new : List Value} (hs : Sl v a o n) (hr : 0 < n → RdL m a o new) (hn : new.length = n * s) (h0 : 0 < s) : acells (m ++ [none]) s n v = some new ∧ aSliceLen v = some n := by
  rcases hs with ⟨rfl, rfl⟩ | ⟨c, hc, rfl⟩ | ⟨rfl, o', k, rfl⟩
  · obtain rfl : new = [] := List.eq_nil_of_length_eq_zero (by simpa using hn)
    exact ⟨by simp [acells], rfl⟩
  · refine ⟨?_, rfl⟩
    by_cases hz : n = 0
    · subst hz
      obtain rfl : new = [] := List.eq_nil_of_length_eq_zero (by simpa using hn)
      simp [acells]
    · obtain ⟨b, r1, r2⟩ := hr (by omega)
      have hr' : (m ++ [none])[a]? = some (some b) := get_old _ r1
      have hns : 0 < n * s := Nat.mul_pos (by omega) h0
      have hlast := r2 (n * s - 1) new[n * s - 1] (List.getElem?_eq_getElem (by omega))
      have hlen := (List.getElem?_eq_some_iff.1 hlast).1
      have htake : (b.cells.drop o).take (n * s) = new := by
        apply List.ext_getElem?
        intro j
        by_cases hj : j < n * s
        · rw [List.getElem?_take, if_pos hj, List.getElem?_drop, r2 j new[j] (List.getElem?_eq_getElem (by omega)), List.getElem?_eq_getElem (by omega)]
        · rw [List.getElem?_take, if_neg hj, List.getElem?_eq_none (by omega)]
      simp only [acells, hr']
      rw [if_neg hz, if_pos ⟨Nat.le_refl _, by omega⟩, htake]
  · obtain rfl : new = [] := List.eq_nil_of_length_eq_zero (by simpa using hn)
    exact ⟨by simp [acells], rfl⟩
/-- APPEND. -/
theorem Step.appRow {x y : Operand} {X Y e e' : TypeId} {by_ s a o n xl b0 : Nat} {z : Array Value} {c new : List Value} {u yv : Value} (hx : evo t x = some u) (hy : evo t y = some yv) (hr : Row m b0 s u c n) (hs : Sl yv a o xl) (hrd : 0 < xl → RdL m a o new) (hE : elemB P X = some (e, s, by_, z)) (hY : P.underlying Y = some (.slice e'))
    (hn : new.length = xl * s) (hn1 : new.all (·.oneCell') = true) (h0 : Nat.blt 0 s = true) (hb : (n + xl) * by_ ≤ 1099511627776 ∧ n + xl ≤ 1099511627776) (hlt : Nat.blt d nt = true) (hbm : b0 ≤ m.length)
    (hK : ∀ u' M', Row M' b0 s u' (c ++ new) (n + xl) → m.length ≤ M'.length → (∀ j, j < m.length → NotOf u j → M'[j]? = m[j]?) → K (put t d u') M') :
    Step P nt ops ⟨some d, .call ⟨.builtin .append, #[x, y], #[X, Y]⟩, T, p, af, none⟩ t m K := by
  have h0 : 0 < s := Nat.le_of_ble_eq_true h0
  obtain ⟨hc1, hc2⟩ := acells_sl hs hrd hn h0
  have fin : ∀ v m', aloud P ⟨some d, .call ⟨.builtin .append, #[x, y], #[X, Y]⟩, T, p, af, none⟩ (evD t) (m ++ [none]) m.length = some (v, m') → K (put t d v) m' → Step P nt ops ⟨some d, .call ⟨.builtin .append, #[x, y], #[X, Y]⟩, T, p, af, none⟩ t m K :=
    fun v m' h hk => .l rfl rfl hlt rfl (by simp [Op.operands, Call.operands, hx, hy]) (loud_of_aloud rfl h hk)
  have hnone : ¬ ((!(new.all (·.oneCell')) || s == 0) = true) := by simp [hn1]; omega
  have set1 : ∀ (M : AM) (b : Blk), M.length = m.length → (M ++ [none]).set m.length (some b) = M ++ [some b] := fun M b h => by
    rw [List.set_append_right _ _ (by omega), h]
    simp
  rcases hr with ⟨rfl, rfl, rfl⟩ | ⟨q, kd, sz, hq0, rfl, hq, hcl, hkd⟩
  · by_cases hx0 : xl = 0
    · subst hx0
      obtain rfl : new = [] := List.eq_nil_of_length_eq_zero (by simpa using hn)
      refine fin (.slice none 0 0) (m ++ [none]) ?_ (hK _ _ Row.nil (by simp) fun j hj _ => List.getElem?_append_left hj)
      simp only [aloud, evD_of hx, evD_of hy, aappend, hE, hY, hc1, hc2]
      rw [if_neg hnone, if_pos trivial]
    · refine fin (.slice (some ⟨m.length, 0, none⟩) xl xl) (m ++ [some { cells := new, kind := .grow, size := s }]) ?_ (hK _ _ (.inr ⟨m.length, .grow, s, hbm, by rw [Nat.zero_add], by simp, by simpa using hn, .inr ⟨rfl, rfl⟩⟩) (by simp) fun j hj _ => List.getElem?_append_left hj)
      simp only [aloud, evD_of hx, evD_of hy, aappend, hE, hY, hc1, hc2]
      rw [if_neg hnone, if_neg hx0, if_pos (by simpa using hb), set1 m _ rfl]
  · have hg : (m ++ [none])[q]? = some (some { cells := c, kind := kd, size := sz }) := get_old _ hq
    have hql := (List.getElem?_eq_some_iff.1 hq).1
    by_cases hx0 : xl = 0
    · subst hx0
      obtain rfl : new = [] := List.eq_nil_of_length_eq_zero (by simpa using hn)
      refine fin (.slice (some ⟨q, 0, none⟩) n n) (m ++ [none]) ?_ (hK _ _ (.inr ⟨q, kd, sz, hq0, rfl, by rw [List.append_nil]; exact hg, by rw [List.append_nil]; exact hcl, hkd⟩) (by simp) fun j hj _ => List.getElem?_append_left hj)
      simp only [aloud, evD_of hx, evD_of hy, aappend, hE, hY, hc1, hc2]
      rw [if_neg hnone, if_pos trivial]
    · have hcn : (c ++ new).length = (n + xl) * s := by rw [List.length_append, hcl, hn, Nat.add_mul]
      rcases hkd with rfl | ⟨rfl, rfl⟩
      · refine fin (.slice (some ⟨m.length, 0, none⟩) (n + xl) (n + xl)) (m ++ [some { cells := c ++ new, kind := .grow, size := s }]) ?_ (hK _ _ (.inr ⟨m.length, .grow, s, hbm, rfl, by simp, hcn, .inr ⟨rfl, rfl⟩⟩) (by simp) fun j hj _ => List.getElem?_append_left hj)
        simp only [aloud, evD_of hx, evD_of hy, aappend, hE, hY, hc1, hc2]
        rw [if_neg hnone, if_neg hx0]
        simp only [hg]
        rw [if_neg (by omega), if_pos ⟨hb.1, hb.2, Nat.le_refl _⟩, if_pos (by omega), set1 m _ rfl]
        simp [List.take_of_length_le (show c.length ≤ n * s by omega)]
      · refine fin (.slice (some ⟨m.length, 0, none⟩) (n + xl) (n + xl)) ((m.set q none) ++ [some { cells := c ++ new, kind := .grow, size := sz }]) ?_ (hK _ _ (.inr ⟨m.length, .grow, sz, hbm, rfl, by simp, hcn, .inr ⟨rfl, rfl⟩⟩) (by simp) fun j hj hne => ?_)
        · simp only [aloud, evD_of hx, evD_of hy, aappend, hE, hY, hc1, hc2]
          rw [if_neg hnone, if_neg hx0]
          simp only [hg]
          rw [if_neg (by omega), if_pos ⟨hb.1, hb.2, Nat.le_refl _⟩, if_pos ⟨by omega, trivial⟩, List.set_append_left _ _ hql, set1 (m.set q none) _ (by simp)]
          simp [List.take_of_length_le (show c.length ≤ n * sz by omega)]
        · rw [List.getElem?_append_left (by simpa using hj), List.getElem?_set_ne]
          rintro rfl
          exact hne n n rfl
end
end Go.Proofs.YtedbjmgchfgabaaDoor.Abs
namespace Go.Proofs.YtedbjmgchfgabaaDoor.Abs
set_option linter.unusedSimpArgs false
set_option linter.unusedVariables false
open Go.RowKit
open Go.Proofs.YtedbjmgchfgabaaDoor.Sim
theorem NotOf.new {a j n c : Nat} (h : j < a) : NotOf (.slice (some ⟨a, 0, none⟩) n c) j := by
  intro n' c' e
  simp only [Value.slice.injEq, Option.some.injEq, Addr.mk.injEq] at e
  omega
theorem NotOf.nil {j : Nat} : NotOf (.slice none 0 0) j := fun n c e => by
  simp only [Value.slice.injEq] at e
  cases e.1
section
variable {P : Program} {nt : Nat} {ops : Array Oper} {t : Fm} {m : AM} {K : Fm → AM → Prop} {d T : Nat} {p : String} {af : Array Edge}
end
end Go.Proofs.YtedbjmgchfgabaaDoor.Abs
namespace Go.Proofs.YtedbjmgchfgabaaDoor.Abs
set_option linter.unusedSimpArgs false
set_option linter.unusedVariables false
open Go.RowKit
open Go.Proofs.YtedbjmgchfgabaaDoor.Sim
open Go.Proofs
/-- Boards as an argument. -/
def Brds (m : AM) (v : Value) (Bs : List Brd) : Prop := ∃ a o, Sl v a o Bs.length ∧ a < m.length ∧ ∀ i, i < Bs.length → ∃ w, Rd m a (o + i) w ∧ Strs m w (Bs.getD i [])
theorem Brds.old {m : AM} {v : Value} {Bs : List Brd} (h : Brds m v Bs) (T : AM) : Brds (m ++ T) v Bs := by
  obtain ⟨a, o, h1, h2, h3⟩ := h
  exact ⟨a, o, h1, by rw [List.length_append]; omega, fun i hi => by obtain ⟨w, k1, k2⟩ := h3 i hi; exact ⟨w, k1.old T, k2.old T⟩⟩
theorem pre_up {m M M' : AM} (h : ∃ N, M = m ++ N) (h2 : ∃ N, M' = M ++ N) : ∃ N, M' = m ++ N := by
  obtain ⟨N, rfl⟩ := h
  obtain ⟨N2, rfl⟩ := h2
  exact ⟨_, List.append_assoc _ _ _⟩
theorem row_pre {m M M' : AM} {s : Nat} {u : Value} {c : List Value} {n : Nat} (hp : ∃ N, M = m ++ N) (hr : Row M m.length s u c n) (hl : M.length ≤ M'.length) (hk : ∀ j, j < M.length → NotOf u j → M'[j]? = M[j]?) : ∃ N, M' = m ++ N :=
  pre_keep hp hl fun j hj => hk j (by obtain ⟨N, e⟩ := hp; rw [e, List.length_append]; omega) (NotOf.row hr hj)
def twc (l : List Jb.Two) : List Value := l.flatMap Jb.Two.cells
theorem twc_snoc (l : List Jb.Two) (x : Jb.Two) : twc (l ++ [x]) = twc l ++ x.cells := by simp [twc]
theorem twc_get : ∀ (l : List Jb.Two) (i : Nat), i < l.length → ∀ (j : Nat) (v : Value), (l.getD i default).cells[j]? = some v → (twc l)[i * 2 + j]? = some v
  | [], i, h, _, _, _ => by simp at h
  | x :: l, 0, _, j, v, hj => by
    have e : twc (x :: l) = x.cells ++ twc l := rfl
    have hjl : j < x.cells.length := (List.getElem?_eq_some_iff.1 hj).1
    rw [e, Nat.zero_mul, Nat.zero_add, List.getElem?_append_left hjl]
    exact hj
  | x :: l, i + 1, h, j, v, hj => by
    have e : twc (x :: l) = x.cells ++ twc l := rfl
    have e2 : x.cells.length = 2 := rfl
    rw [e, List.getElem?_append_right (by rw [e2]; omega), e2, show (i + 1) * 2 + j - 2 = i * 2 + j by omega]
    exact twc_get l i (by simpa using h) j v (by simpa using hj)
theorem row_twos {M : AM} {b0 n : Nat} {u : Value} {j : List Jb.Two} (h : Row M b0 2 u (twc j) n) (hn : n = j.length) (hM : 0 < M.length) : Jb.Twos M u j := by
  subst hn
  obtain ⟨a, h1, h2, h3⟩ := Row.sl h hM
  refine ⟨a, 0, h1, h2, fun i hi => ?_⟩
  obtain ⟨b, k1, k2⟩ := h3 (by omega)
  refine ⟨b, k1, fun q v hq => ?_⟩
  have := k2 _ v (twc_get j i hi q v hq)
  rw [Nat.zero_add] at this ⊢
  exact this
/-- A board as two jobs: its plan, its pieces. -/
def jobB (K : List Kd) (B : Brd) : Jb.Two := ⟨(planM B K).length, ((rdgM B K (planM B K)).1.length : Nat)⟩
def jobsT (Bs : List Brd) (K : List Kd) (k : Nat) : List Jb.Two := (Bs.take k).map (jobB K)
theorem jobsT_succ (Bs : List Brd) (K : List Kd) {k : Nat} (h : k < Bs.length) : jobsT Bs K (k + 1) = jobsT Bs K k ++ [jobB K (Bs.getD k [])] := by
  unfold jobsT
  rw [take_snoc Bs k [] h]
  simp
theorem jobsT_len (Bs : List Brd) (K : List Kd) {k : Nat} (h : k ≤ Bs.length) : (jobsT Bs K k).length = k := by simp [jobsT, h]
theorem plan_pos {B : Brd} {K : List Kd} (hg : goodB B K = true) : 1 ≤ (planM B K).length := by
  obtain ⟨l, rl, _⟩ := rdg_plan hg
  cases hp : planM B K with
  | nil =>
    rw [hp] at rl
    unfold rdgM at rl
    rw [if_pos hg] at rl
    simp [rdM] at rl
  | cons x l => simp
theorem job_lim {B : Brd} {K : List Kd} (hg : goodB B K = true) : 1 ≤ (planM B K).length ∧ (planM B K).length ≤ 512 ∧ (rdgM B K (planM B K)).1.length ≤ (planM B K).length := ⟨plan_pos hg, planM_le hg, rdgM_all.1⟩
theorem jobs_sum (Bs : List Brd) (K : List Kd) : ∀ (k : Nat), k ≤ Bs.length → (∀ i, i < k → goodB (Bs.getD i []) K = true) → 0 ≤ Jb.cS (jobsT Bs K k) ∧ Jb.cS (jobsT Bs K k) ≤ 512 * k ∧ 0 ≤ Jb.sS (jobsT Bs K k) ∧ Jb.sS (jobsT Bs K k) ≤ 512 * k
  | 0, _, _ => by simp [jobsT, Jb.cS, Jb.sS, Jb.sumI]
  | k + 1, hk, h => by
    have ih := jobs_sum Bs K k (by omega) fun i hi => h i (by omega)
    have := job_lim (h k (by omega))
    rw [jobsT_succ Bs K (by omega), Jb.cS_snoc, Jb.sS_snoc]
    simp only [jobB]
    omega
theorem jobs_ok (Bs : List Brd) (K : List Kd) {k : Nat} (hk : k ≤ Bs.length) (h8 : k ≤ 8) (h : ∀ i, i < k → goodB (Bs.getD i []) K = true) : Jb.twosB (jobsT Bs K k) = true := by
  have hl := jobsT_len Bs K hk
  simp only [Jb.twosB, Bool.and_eq_true, decide_eq_true_eq, List.all_eq_true]
  refine ⟨by omega, fun x hx => ?_⟩
  obtain ⟨i, hi, rfl⟩ := List.getElem_of_mem hx
  have hi' : i < k := by omega
  have e : (jobsT Bs K k)[i] = jobB K (Bs.getD i []) := by
    have hB : i < Bs.length := by omega
    simp [jobsT, hB]
  rw [e]
  have := job_lim (h i hi')
  have key : ∀ a b : Nat, b ≤ a → a ≤ 512 → Jb.tlim1 ⟨(a : Nat), (b : Nat)⟩ = true := fun a b h1 h2 => by
    simp only [Jb.tlim1, decide_eq_true_eq]
    omega
  exact key _ _ this.2.2 this.2.1
end Go.Proofs.YtedbjmgchfgabaaDoor.Abs
namespace Go.Proofs.YtedbjmgchfgabaaDoor.Abs
set_option linter.unusedSimpArgs false
set_option linter.unusedVariables false
open Go.RowKit
open Go.Proofs.YtedbjmgchfgabaaDoor.Sim
open Go.Proofs
theorem benches_ok {m : AM} : ACall Tryd.prog 24 #[] m (Ret (.bool true) m) :=
  (ACall.of_calls (by kernel_rfl) (by kernel_rfl) fun w => closed_call fit (n := 400) (by kernel_rfl) (by kernel_rfl) (by kernel_rfl) w).mono fun _ _ ⟨a, b⟩ => ⟨a.symm, b.symm⟩
theorem el66 : elemB Tryd.prog 66 = some (68, 2, 16, #[.int .i64 0, .int .i64 0]) := by kernel_rfl
theorem un66 : Tryd.prog.underlying 66 = some (.slice 68) := by kernel_rfl
theorem bl68 {x y : Int} : abuild Tryd.prog 68 [(0, .int .i64 x), (1, .int .i64 y)] = some (.agg #[.int .i64 x, .int .i64 y]) := by kernel_rfl
theorem bs66 {m : AM} {n : Nat} {x y : Int} : abuildSlice Tryd.prog m n 66 1 [(0, .agg #[.int .i64 x, .int .i64 y])] = some (.slice (some ⟨n, 0, none⟩) 1 1, m.set n (some { cells := [.int .i64 x, .int .i64 y] })) := by kernel_rfl
set_option maxHeartbeats 16000000 in
set_option maxRecDepth 100000 in
theorem TopQueue_ok {m : AM} {bv kv ov : Value} {Bs : List Brd} {K : List Kd} {ord : List Int} (hb : Brds m bv Bs) (hk : Kds m kv K) (ho : Ints m ov ord) (hbl : Bs.length ≤ 9223372036854775807) (hkl : K.length ≤ 9223372036854775807) (hol : ord.length ≤ 9223372036854775807) :
    ACall Tryd.prog 6 #[bv, kv, ov] m (Ret (.bool true) m) := by
  refine ACall.drop (.bool _) ?_
  have haw : ∀ M, ACall Tryd.prog 24 #[] M (Ret (.bool true) M) := fun M => benches_ok
  obtain ⟨A, O, sl, la, rd⟩ := id hb
  have hM : 0 < m.length := by omega
  have K0 : ∀ M, (∃ N, M = m ++ N) → Kds M kv K := fun M ⟨N, e⟩ => by rw [e]; exact hk.old _
  have O1 := fun M h T => of_ok ((K0 M h).old T) hkl
  refine ACall.start Tryd.func6 rfl rfl ?_
  (repeat (first | (with_reducible refine AWo.cons ?_) | ((with_reducible refine Step.id ?_); first | ((with_reducible apply Step.move); exact rfl; exact rfl) | ((with_reducible apply Step.assign); exact rfl; exact rfl) | ((with_reducible apply Step.len); exact rfl; (focus (assumption)); (focus (decide +kernel)); exact rfl)) | (with_reducible refine AWo.nil ?_) | ((with_reducible apply AW.seq)) | ((with_reducible apply Then.n)) | ((with_reducible apply AW.regL)) | ((with_reducible apply AW.block))))
  refine AW.loopW (fun n t M => ∃ (i : Nat) (u : Value), n = Bs.length - i ∧ i ≤ Bs.length ∧ i ≤ 8 ∧ (∃ N, M = m ++ N) ∧ (∀ q, q < i → goodB (Bs.getD q []) K = true) ∧ Row M m.length 2 u (twc (jobsT Bs K i)) i ∧
    t = fr [(1, kv), (2, ov), (7, u), (8, .int .i64 (Jb.cS (jobsT Bs K i))), (9, .int .i64 (Jb.sS (jobsT Bs K i))), (10, .int .i64 (Jb.mC (jobsT Bs K i))), (11, .int .i64 (Jb.mS (jobsT Bs K i))), (25, bv), (26, .int .i64 (Bs.length : Nat)), (27, .int .i64 (i : Nat))])
    ⟨_, _, (by repeat (first | exact trivial | (refine And.intro rfl ?_))), 0, _, rfl, Nat.zero_le _, Nat.zero_le _, ⟨[], by rw [List.append_nil]⟩, fun q hq => by omega, Row.nil, rfl⟩ ?_
  rintro n t M ⟨i, u, rfl, hi, hi8, hp, hgd, hrow, rfl⟩
  have rM : ∀ q, q < Bs.length → ∃ w, Rd M A (O + q) w ∧ Strs M w (Bs.getD q []) := fun q hq => by
    obtain ⟨w, k1, k2⟩ := rd q hq
    obtain ⟨N, rfl⟩ := hp
    exact ⟨w, k1.old _, k2.old _⟩
  have hcase : (i < Bs.length ∧ i < 8) ∨ i = Bs.length ∨ (i < Bs.length ∧ i = 8) := by omega
  rcases hcase with ⟨hlt, h8⟩ | hend
  · obtain ⟨w, hrw, hsw⟩ := rM i hlt
    have hs := jobs_sum Bs K i hi hgd
    have e0 := jobsT_succ Bs K hlt
    have ejl := jobsT_len Bs K hi
    generalize hC : Bs.getD i [] = C at *
    have hG := fun T => RGood_ok (hsw.old T) ((K0 M hp).old T)
    refine AW.rebase ?_
    cases hg : goodB C K with
    | false =>
      rw [hg] at hG
      (repeat (first | (with_reducible refine AWo.cons ?_) | ((with_reducible refine Step.id ?_); first | ((with_reducible apply Step.move); exact rfl; exact rfl) | ((with_reducible apply Step.assign); exact rfl; exact rfl) | ((with_reducible apply Step.load); exact rfl; (focus (decide +kernel)); exact rfl; (focus (exact Rd.old _ (by assumption)))) | ((with_reducible apply Step.ix1); exact rfl; (focus (assumption)); exact rfl; (focus (decide +kernel)); exact rfl; (focus (omega))) | ((with_reducible apply Step.lss); exact rfl; exact rfl; exact rfl) | ((with_reducible apply Step.geq); exact rfl; exact rfl; exact rfl) | ((with_reducible apply Step.not); exact rfl; exact rfl) | ((with_reducible apply Step.callR fit); exact rfl; exact Tryd.func8; exact rfl; exact rfl; exact (hG _)) | ((with_reducible apply Step.callR fit); exact rfl; exact Tryd.func24; exact rfl; exact rfl; exact (haw _))) | (with_reducible refine AWo.nil ?_) | ((with_reducible apply AW.seq)) | ((with_reducible apply Then.n)) | ((with_reducible apply AW.regL)) | ((with_reducible apply AW.block)) | ((with_reducible apply AW.skip)) | ((with_reducible apply AW.condT); exact rfl; (focus (first | rfl | (simp only [decide_eq_true_eq, decide_eq_false_iff_not, Bool.not_eq_true', Bool.not_eq_false', Bool.not_true, Bool.not_false]; first | assumption | omega)))) | ((with_reducible apply AW.condF); exact rfl; (focus ((simp only [decide_eq_true_eq, decide_eq_false_iff_not, Bool.not_eq_true', Bool.not_eq_false', Bool.not_true, Bool.not_false]; first | assumption | omega))))))
      (refine AW.ret ?_; (repeat (first | refine Then.r ?_ | refine InBlk.r ?_)))
      obtain ⟨N, hN⟩ := hp
      exact ⟨_, rfl, rfl, _, by rw [hN, List.append_assoc]⟩
    | true =>
      rw [hg] at hG
      have et := good_len hg
      rw [et] at O1
      have hlim := job_lim hg
      obtain ⟨l, rl, rw1, _⟩ := rdg_plan hg
      have hlen2 : (planM C K).length ≤ 1000000 := by omega
      (repeat (first | (with_reducible refine AWo.cons ?_) | ((with_reducible refine Step.id ?_); first | ((with_reducible apply Step.move); exact rfl; exact rfl) | ((with_reducible apply Step.assign); exact rfl; exact rfl) | ((with_reducible apply Step.load); exact rfl; (focus (decide +kernel)); exact rfl; (focus (exact Rd.old _ (by assumption)))) | ((with_reducible apply Step.ix1); exact rfl; (focus (assumption)); exact rfl; (focus (decide +kernel)); exact rfl; (focus (omega))) | ((with_reducible apply Step.lss); exact rfl; exact rfl; exact rfl) | ((with_reducible apply Step.geq); exact rfl; exact rfl; exact rfl) | ((with_reducible apply Step.not); exact rfl; exact rfl) | ((with_reducible apply Step.callR fit); exact rfl; exact Tryd.func8; exact rfl; exact rfl; exact (hG _)) | ((with_reducible apply Step.callG fit (k := 0)); exact rfl; exact rfl; exact Tryd.func13; exact rfl; exact rfl; exact (O1 M hp _); (focus (first | (simp only [List.nil_append, List.cons_append, List.set_cons_zero, List.set_cons_succ, iv_set, bv_set, iv_rep, bv_rep]; done) | (simp only [List.nil_append, List.cons_append, List.set_cons_zero, List.set_cons_succ, iv_set, bv_set, iv_rep, bv_rep]; rfl) | rfl)))) | (with_reducible refine AWo.nil ?_) | ((with_reducible apply AW.seq)) | ((with_reducible apply Then.n)) | ((with_reducible apply AW.regL)) | ((with_reducible apply AW.block)) | ((with_reducible apply AW.skip)) | ((with_reducible apply AW.condT); exact rfl; (focus ((simp only [decide_eq_true_eq, decide_eq_false_iff_not, Bool.not_eq_true', Bool.not_eq_false', Bool.not_true, Bool.not_false]; first | assumption | omega)))) | ((with_reducible apply AW.condF); exact rfl; (focus (first | rfl | (simp only [decide_eq_true_eq, decide_eq_false_iff_not, Bool.not_eq_true', Bool.not_eq_false', Bool.not_true, Bool.not_false]; first | assumption | omega))))))
      ((with_reducible apply Step.callX fit); exact rfl; exact Tryd.func19; exact rfl; exact rfl; exact (Plan_ok (hsw.old _) (kds_at (l := K) rfl) hg))
      rintro _ M1 ⟨N1, hN1⟩ ⟨pw, rfl, hpw⟩
      have hp1 : ∃ N, M1 = m ++ N := by obtain ⟨N, e⟩ := hp; exact ⟨_, by rw [hN1, e, List.append_assoc, List.append_assoc]⟩
      have hsw1 : Strs M1 w C := by rw [hN1]; exact (hsw.old _).old _
      have hrow1 : Row M1 m.length 2 u (twc (jobsT Bs K i)) i := by rw [hN1]; exact (hrow.old _).old _
      have np := Nds.of_pl hpw
      obtain ⟨A9, O9, sl9, la9, _⟩ := id np
      obtain ⟨q9, c9, rfl⟩ := sl9.shape
      have R1 := fun T => Read_ok (m := M1 ++ (gb (kvc K) 5 :: T)) (ps := planM C K) (hsw1.old _) (kds_at (k := 0) (l := K) rfl) (PN.of_nds (np.old _)) hlen2
      rw [rl] at R1
      rw [rl] at hlim
      simp only at hlim
      have ej : jobB K C = ⟨(planM C K).length, (l.length : Nat)⟩ := by unfold jobB; rw [rl]
      simp only [rw1] at R1
      clear hN1 hpw hG hsw hrow
      (repeat (first | (with_reducible refine AWo.cons ?_) | ((with_reducible refine Step.id ?_); first | ((with_reducible apply Step.move); exact rfl; exact rfl) | ((with_reducible apply Step.assign); exact rfl; exact rfl) | ((with_reducible apply Step.extract); exact rfl; exact rfl; exact rfl) | ((with_reducible apply Step.callG fit (k := 0)); exact rfl; exact rfl; exact Tryd.func13; exact rfl; exact rfl; exact (O1 M1 hp1 _); (focus (first | (simp only [List.nil_append, List.cons_append, List.set_cons_zero, List.set_cons_succ, iv_set, bv_set, iv_rep, bv_rep]; done) | (simp only [List.nil_append, List.cons_append, List.set_cons_zero, List.set_cons_succ, iv_set, bv_set, iv_rep, bv_rep]; rfl) | rfl)))) | (with_reducible refine AWo.nil ?_) | ((with_reducible apply AW.seq)) | ((with_reducible apply Then.n)) | ((with_reducible apply AW.regL))))
      ((with_reducible apply Step.callX fit); exact rfl; exact Tryd.func20; exact rfl; exact rfl; exact (R1 _))
      rintro _ M2 ⟨N2, hN2⟩ ⟨u2, rfl, hpc⟩
      have hp2 : ∃ N, M2 = m ++ N := by obtain ⟨N, e⟩ := hp1; exact ⟨_, by rw [hN2, e, List.append_assoc, List.append_assoc]⟩
      have hrow2 : Row M2 m.length 2 u (twc (jobsT Bs K i)) i := by rw [hN2]; exact (hrow1.old _).old _
      have hml2 : m.length ≤ M2.length := by obtain ⟨N, e⟩ := hp2; rw [e, List.length_append]; omega
      obtain ⟨A8, O8, sl8, la8, _⟩ := id hpc
      clear hN2 R1 np hrow1
      rw [ej] at e0
      have ec := Jb.cS_snoc (jobsT Bs K i) ⟨(planM C K).length, (l.length : Nat)⟩
      have es := Jb.sS_snoc (jobsT Bs K i) ⟨(planM C K).length, (l.length : Nat)⟩
      have emc := Jb.mC_snoc (jobsT Bs K i) ⟨(planM C K).length, (l.length : Nat)⟩
      have ems := Jb.mS_snoc (jobsT Bs K i) ⟨(planM C K).length, (l.length : Nat)⟩
      have ew := twc_snoc (jobsT Bs K i) ⟨(planM C K).length, (l.length : Nat)⟩
      generalize (planM C K).length = pl at *
      generalize hjj : jobsT Bs K i = jj at *
      (repeat (first | (with_reducible refine AWo.cons ?_) | ((with_reducible refine Step.id ?_); first | ((with_reducible apply Step.gdT); exact rfl; exact rfl; (focus (first | rfl | (simp only [decide_eq_true_eq, decide_eq_false_iff_not, Bool.not_eq_true', Bool.not_eq_false', Bool.not_true, Bool.not_false]; first | assumption | omega)))) | ((with_reducible apply Step.move); exact rfl; exact rfl) | ((with_reducible apply Step.assign); exact rfl; exact rfl) | ((with_reducible apply Step.lss); exact rfl; exact rfl; exact rfl) | ((with_reducible apply Step.gtr); exact rfl; exact rfl; exact rfl) | ((with_reducible apply Step.neq); exact rfl; exact rfl; exact rfl) | ((with_reducible apply Step.len); exact rfl; (focus (assumption)); (focus (decide +kernel)); exact rfl) | ((with_reducible apply Step.extract); exact rfl; exact rfl; exact rfl) | ((with_reducible apply Step.pickF); exact rfl; exact rfl; exact rfl; exact rfl; (focus (first | rfl | (simp only [decide_eq_true_eq, decide_eq_false_iff_not, Bool.not_eq_true', Bool.not_eq_false', Bool.not_true, Bool.not_false]; first | assumption | omega)))) | ((with_reducible apply Step.buildS 0); exact rfl; exact rfl; exact (fun _ _ => bs66); exact rfl; (focus (first | (simp only [List.nil_append, List.cons_append, List.set_cons_zero, List.set_cons_succ, iv_set, bv_set, iv_rep, bv_rep]; done) | (simp only [List.nil_append, List.cons_append, List.set_cons_zero, List.set_cons_succ, iv_set, bv_set, iv_rep, bv_rep]; rfl) | rfl))) | ((with_reducible apply Step.build); exact rfl; exact bl68; exact rfl)) | (with_reducible refine AWo.nil ?_) | ((with_reducible apply AW.seq)) | ((with_reducible apply Then.n)) | ((with_reducible apply AW.regL)) | ((with_reducible apply AW.skip)) | ((with_reducible apply AW.condF); exact rfl; (focus ((simp only [decide_eq_true_eq, decide_eq_false_iff_not, Bool.not_eq_true', Bool.not_eq_false', Bool.not_true, Bool.not_false]; first | assumption | omega))))))
      ((with_reducible apply Step.appRow (n := i) (xl := 1) (b0 := m.length) (new := [.int .i64 (pl : Nat), .int .i64 (l.length : Nat)])); exact rfl; exact rfl; exact (hrow2.old _); exact (Sl.mk (Nat.le_refl _)); exact (fun _ => RdL.new rfl rfl); exact el66; exact un66; exact rfl; exact rfl; exact rfl; (focus (omega)); exact rfl; (focus (rw [List.length_append]; omega)))
      intro u' M' hr hl hk'
      have hp' := row_pre (pre_up hp2 ⟨_, rfl⟩) (hrow2.old _) hl hk'
      (repeat (first | (with_reducible refine AWo.cons ?_) | ((with_reducible refine Step.id ?_); first | ((with_reducible apply Step.move); exact rfl; exact rfl) | ((with_reducible apply Step.assign); exact rfl; exact rfl) | ((with_reducible apply Step.add); exact rfl; exact rfl; (focus (omega)); exact rfl) | ((with_reducible apply Step.len); exact rfl; (focus (assumption)); (focus (decide +kernel)); exact rfl) | ((with_reducible apply Step.min); exact rfl; exact rfl; exact rfl)) | (with_reducible refine AWo.nil ?_) | ((with_reducible apply Then.n)) | ((with_reducible apply AW.regL)) | ((with_reducible apply InBlk.n))))
      refine ⟨_, [(1, kv), (2, ov), (7, u'), (8, .int .i64 (Jb.cS jj + (pl : Nat))), (9, .int .i64 (Jb.sS jj + (l.length : Nat))), (10, .int .i64 (min (Jb.mC jj) (pl : Nat))), (11, .int .i64 (min (Jb.mS jj) (l.length : Nat))), (25, bv), (26, .int .i64 (Bs.length : Nat)), (27, .int .i64 (i + 1 : Nat))], by omega, (by repeat (first | exact trivial | (refine And.intro rfl ?_))), i + 1, u', rfl, by omega, by omega, hp', fun q hq => ?_, ?_, ?_⟩
      · rcases Nat.lt_succ_iff_lt_or_eq.1 hq with h | rfl
        · exact hgd q h
        · rw [hC]; exact hg
      · rw [e0, ew]; exact hr
      · rw [e0, ec, es, emc, ems]
  have htw := jobs_ok Bs K hi hi8 hgd
  have hs := jobs_sum Bs K i hi hgd
  have ejl := jobsT_len Bs K hi
  have hML : 0 < M.length := by obtain ⟨N, e⟩ := hp; rw [e, List.length_append]; omega
  have hj : Jb.Twos M u (jobsT Bs K i) := row_twos hrow ejl.symm hML
  have hoM : Ints M ov ord := by obtain ⟨N, e⟩ := hp; rw [e]; exact ho.old _
  have hli := (Jb.tlim_of htw).1
  have hmC : Jb.mC (jobsT Bs K i) ≤ 1073741824 := (Jb.fold_min (·.cut) _ _).1
  have hmS : Jb.mS (jobsT Bs K i) ≤ 1073741824 := (Jb.fold_min (·.sew) _ _).1
  obtain ⟨A7, O7, sl7, la7, _⟩ := id hj
  have hnn : ∀ x ∈ jobsT Bs K i, 0 ≤ x.cut ∧ 0 ≤ x.sew := fun x hx => by
    obtain ⟨k, hk, rfl⟩ := List.getElem_of_mem hx
    have := hli k hk
    have e : (jobsT Bs K i).getD k default = (jobsT Bs K i)[k] := by simp [hk]
    rw [e] at this
    exact ⟨this.1, this.2.2.1⟩
  have hmC0 : 0 ≤ Jb.mC (jobsT Bs K i) := Jb.fold_min_ge (·.cut) _ _ (by omega) fun x hx => (hnn x hx).1
  have hmS0 : 0 ≤ Jb.mS (jobsT Bs K i) := Jb.fold_min_ge (·.sew) _ _ (by omega) fun x hx => (hnn x hx).2
  have hbd := fun h => Jb.span_bounds hli h
  have hempty : i = 0 → (Jb.spanF (jobsT Bs K i) (Jb.nat (Jb.johnL (jobsT Bs K i)))).2 = 0 := fun h => by
    subst h
    have e : jobsT Bs K 0 = [] := by simp [jobsT]
    have e' : Jb.johnL [] = [] := List.eq_nil_of_length_eq_zero (Jb.johnL_len [])
    rw [e, e']
    rfl
  have e1 : Jb.spanR (jobsT Bs K i) (Jb.johnL (jobsT Bs K i)) = ((Jb.spanF (jobsT Bs K i) (Jb.nat (Jb.johnL (jobsT Bs K i)))).2, 0) := by simp [Jb.spanR, htw, Jb.johnL_order]
  have hbest := fun h => Jb.johnson_best (l := ord) hli h
  have e2 : Jb.spanR (jobsT Bs K i) ord = if Jb.orderB ord i = true then ((Jb.spanF (jobsT Bs K i) (Jb.nat ord)).2, 0) else (0, 6) := by simp [Jb.spanR, htw, ejl]
  have hJ := fun T => Jb.Johnson_ok (hj.old T) (by omega) htw
  have oI := fun T => ints_new (M := M) (L := some { cells := iv (Jb.johnL (jobsT Bs K i)) } :: T) (l := Jb.johnL (jobsT Bs K i)) (k := 0) rfl rfl i (by rw [Jb.johnL_len, ejl])
  have S1 := fun T => Jb.Span_ok (hj.old (some { cells := iv (Jb.johnL (jobsT Bs K i)) } :: T)) (oI T) (by omega) e1
  have hRO := fun T b hb => Jb.ROrder_ok (b := b) i (hoM.old T) (by omega) hol hb
  rw [ejl] at hJ sl7 hbd hbest
  clear hnn hli hmC
  have hjM : Jb.Twos M u (jobsT Bs K i) := hj
  generalize hjj : jobsT Bs K i = j at *
  generalize (Jb.spanF j (Jb.nat (Jb.johnL j))).2 = x at *
  generalize (Jb.spanF j (Jb.nat ord)).2 = y at *
  generalize Jb.cS j = c at *
  generalize Jb.sS j = s at *
  generalize Jb.mC j = mc at *
  generalize Jb.mS j = ms at *
  refine AW.rebase ?_
  cases hob : Jb.orderB ord i with
  | false =>
    rw [hob] at e2
    have S2 := fun T => Jb.Span_ok (hjM.old T) (hoM.old T) (by omega) e2
    have hRO' := fun T => hRO T _ hob
    rcases Nat.eq_zero_or_pos i with h0 | h0
    · have hx := hempty h0
      rcases hend with hE | ⟨hlt, h8⟩
      · (repeat (first | (with_reducible refine AWo.cons ?_) | ((with_reducible refine Step.id ?_); first | ((with_reducible apply Step.gdT); exact rfl; exact rfl; (focus (first | rfl | (simp only [decide_eq_true_eq, decide_eq_false_iff_not, Bool.not_eq_true', Bool.not_eq_false', Bool.not_true, Bool.not_false]; first | assumption | omega)))) | ((with_reducible apply Step.move); exact rfl; exact rfl) | ((with_reducible apply Step.assign); exact rfl; exact rfl) | ((with_reducible apply Step.lss); exact rfl; exact rfl; exact rfl) | ((with_reducible apply Step.eql); exact rfl; exact rfl; exact rfl) | ((with_reducible apply Step.neq); exact rfl; exact rfl; exact rfl) | ((with_reducible apply Step.neqB); exact rfl; exact rfl; exact un4; exact rfl) | ((with_reducible apply Step.len); exact rfl; (focus (assumption)); (focus (decide +kernel)); exact rfl) | ((with_reducible apply Step.extract); exact rfl; exact rfl; exact rfl) | ((with_reducible apply Step.pickT); exact rfl; exact rfl; exact rfl; exact rfl; (focus ((simp only [decide_eq_true_eq, decide_eq_false_iff_not, Bool.not_eq_true', Bool.not_eq_false', Bool.not_true, Bool.not_false]; first | assumption | omega)))) | ((with_reducible apply Step.pickF); exact rfl; exact rfl; exact rfl; exact rfl; (focus (rfl))) | ((with_reducible apply Step.callT fit (k := 0)); exact rfl; exact rfl; exact Tryd.func25; exact rfl; exact rfl; exact (hJ _); (focus (first | (simp only [List.nil_append, List.cons_append, List.set_cons_zero, List.set_cons_succ, iv_set, bv_set, iv_rep, bv_rep]; done) | (simp only [List.nil_append, List.cons_append, List.set_cons_zero, List.set_cons_succ, iv_set, bv_set, iv_rep, bv_rep]; rfl) | rfl))) | ((with_reducible apply Step.callR fit); exact rfl; exact Tryd.func26; exact rfl; exact rfl; exact (S1 _)) | ((with_reducible apply Step.callR fit); exact rfl; exact Tryd.func26; exact rfl; exact rfl; exact (S2 _)) | ((with_reducible apply Step.callR fit); exact rfl; exact Tryd.func27; exact rfl; exact rfl; exact (hRO' _)) | ((with_reducible apply Step.callR fit); exact rfl; exact Tryd.func24; exact rfl; exact rfl; exact (haw _))) | (with_reducible refine AWo.nil ?_) | ((with_reducible apply AW.seq)) | ((with_reducible apply Then.n)) | ((with_reducible apply AW.regL)) | ((with_reducible apply AW.exit)) | ((with_reducible apply InBlk.hit)) | ((with_reducible apply Then.e)) | ((with_reducible apply AW.skip)) | ((with_reducible apply AW.condT); exact rfl; (focus ((simp only [decide_eq_true_eq, decide_eq_false_iff_not, Bool.not_eq_true', Bool.not_eq_false', Bool.not_true, Bool.not_false]; first | assumption | omega)))) | ((with_reducible apply AW.condF); exact rfl; (focus (first | rfl | (simp only [decide_eq_true_eq, decide_eq_false_iff_not, Bool.not_eq_true', Bool.not_eq_false', Bool.not_true, Bool.not_false]; first | assumption | omega))))))
        (refine AW.ret ?_; (repeat (first | refine Then.r ?_ | refine InBlk.r ?_)))
        obtain ⟨N, hN⟩ := hp
        exact ⟨_, rfl, rfl, _, by rw [hN, List.append_assoc]⟩
      · omega
    · obtain ⟨b1, b2, b3⟩ := hbd h0
      rcases hend with hE | ⟨hlt, h8⟩
      · (repeat (first | (with_reducible refine AWo.cons ?_) | ((with_reducible refine Step.id ?_); first | ((with_reducible apply Step.gdT); exact rfl; exact rfl; (focus (first | rfl | (simp only [decide_eq_true_eq, decide_eq_false_iff_not, Bool.not_eq_true', Bool.not_eq_false', Bool.not_true, Bool.not_false]; first | assumption | omega)))) | ((with_reducible apply Step.gdF); exact rfl; exact rfl; (focus (rfl))) | ((with_reducible apply Step.move); exact rfl; exact rfl) | ((with_reducible apply Step.assign); exact rfl; exact rfl) | ((with_reducible apply Step.add); exact rfl; exact rfl; (focus (omega)); exact rfl) | ((with_reducible apply Step.lss); exact rfl; exact rfl; exact rfl) | ((with_reducible apply Step.leq); exact rfl; exact rfl; exact rfl) | ((with_reducible apply Step.geq); exact rfl; exact rfl; exact rfl) | ((with_reducible apply Step.eql); exact rfl; exact rfl; exact rfl) | ((with_reducible apply Step.neq); exact rfl; exact rfl; exact rfl) | ((with_reducible apply Step.neqB); exact rfl; exact rfl; exact un4; exact rfl) | ((with_reducible apply Step.len); exact rfl; (focus (assumption)); (focus (decide +kernel)); exact rfl) | ((with_reducible apply Step.extract); exact rfl; exact rfl; exact rfl) | ((with_reducible apply Step.pickT); exact rfl; exact rfl; exact rfl; exact rfl; (focus (first | rfl | (simp only [decide_eq_true_eq, decide_eq_false_iff_not, Bool.not_eq_true', Bool.not_eq_false', Bool.not_true, Bool.not_false]; first | assumption | omega)))) | ((with_reducible apply Step.pickF); exact rfl; exact rfl; exact rfl; exact rfl; (focus (rfl))) | ((with_reducible apply Step.callT fit (k := 0)); exact rfl; exact rfl; exact Tryd.func25; exact rfl; exact rfl; exact (hJ _); (focus (first | (simp only [List.nil_append, List.cons_append, List.set_cons_zero, List.set_cons_succ, iv_set, bv_set, iv_rep, bv_rep]; done) | (simp only [List.nil_append, List.cons_append, List.set_cons_zero, List.set_cons_succ, iv_set, bv_set, iv_rep, bv_rep]; rfl) | rfl))) | ((with_reducible apply Step.callR fit); exact rfl; exact Tryd.func26; exact rfl; exact rfl; exact (S1 _)) | ((with_reducible apply Step.callR fit); exact rfl; exact Tryd.func26; exact rfl; exact rfl; exact (S2 _)) | ((with_reducible apply Step.callR fit); exact rfl; exact Tryd.func27; exact rfl; exact rfl; exact (hRO' _)) | ((with_reducible apply Step.callR fit); exact rfl; exact Tryd.func24; exact rfl; exact rfl; exact (haw _))) | (with_reducible refine AWo.nil ?_) | ((with_reducible apply AW.seq)) | ((with_reducible apply Then.n)) | ((with_reducible apply AW.regL)) | ((with_reducible apply AW.exit)) | ((with_reducible apply InBlk.hit)) | ((with_reducible apply Then.e)) | ((with_reducible apply AW.skip)) | ((with_reducible apply AW.condF); exact rfl; (focus (first | rfl | (simp only [decide_eq_true_eq, decide_eq_false_iff_not, Bool.not_eq_true', Bool.not_eq_false', Bool.not_true, Bool.not_false]; first | assumption | omega))))))
        (refine AW.ret ?_; (repeat (first | refine Then.r ?_ | refine InBlk.r ?_)))
        obtain ⟨N, hN⟩ := hp
        exact ⟨_, rfl, rfl, _, by rw [hN, List.append_assoc]⟩
      · obtain ⟨w, hrw, hsw⟩ := rM i hlt
        (repeat (first | (with_reducible refine AWo.cons ?_) | ((with_reducible refine Step.id ?_); first | ((with_reducible apply Step.gdT); exact rfl; exact rfl; (focus (first | rfl | (simp only [decide_eq_true_eq, decide_eq_false_iff_not, Bool.not_eq_true', Bool.not_eq_false', Bool.not_true, Bool.not_false]; first | assumption | omega)))) | ((with_reducible apply Step.gdF); exact rfl; exact rfl; (focus (rfl))) | ((with_reducible apply Step.move); exact rfl; exact rfl) | ((with_reducible apply Step.assign); exact rfl; exact rfl) | ((with_reducible apply Step.load); exact rfl; (focus (decide +kernel)); exact rfl; (focus (exact Rd.old _ (by assumption)))) | ((with_reducible apply Step.ix1); exact rfl; (focus (assumption)); exact rfl; (focus (decide +kernel)); exact rfl; (focus (omega))) | ((with_reducible apply Step.add); exact rfl; exact rfl; (focus (omega)); exact rfl) | ((with_reducible apply Step.lss); exact rfl; exact rfl; exact rfl) | ((with_reducible apply Step.leq); exact rfl; exact rfl; exact rfl) | ((with_reducible apply Step.geq); exact rfl; exact rfl; exact rfl) | ((with_reducible apply Step.eql); exact rfl; exact rfl; exact rfl) | ((with_reducible apply Step.neq); exact rfl; exact rfl; exact rfl) | ((with_reducible apply Step.neqB); exact rfl; exact rfl; exact un4; exact rfl) | ((with_reducible apply Step.len); exact rfl; (focus (assumption)); (focus (decide +kernel)); exact rfl) | ((with_reducible apply Step.extract); exact rfl; exact rfl; exact rfl) | ((with_reducible apply Step.pickT); exact rfl; exact rfl; exact rfl; exact rfl; (focus (first | rfl | (simp only [decide_eq_true_eq, decide_eq_false_iff_not, Bool.not_eq_true', Bool.not_eq_false', Bool.not_true, Bool.not_false]; first | assumption | omega)))) | ((with_reducible apply Step.pickF); exact rfl; exact rfl; exact rfl; exact rfl; (focus (rfl))) | ((with_reducible apply Step.callT fit (k := 0)); exact rfl; exact rfl; exact Tryd.func25; exact rfl; exact rfl; exact (hJ _); (focus (first | (simp only [List.nil_append, List.cons_append, List.set_cons_zero, List.set_cons_succ, iv_set, bv_set, iv_rep, bv_rep]; done) | (simp only [List.nil_append, List.cons_append, List.set_cons_zero, List.set_cons_succ, iv_set, bv_set, iv_rep, bv_rep]; rfl) | rfl))) | ((with_reducible apply Step.callR fit); exact rfl; exact Tryd.func26; exact rfl; exact rfl; exact (S1 _)) | ((with_reducible apply Step.callR fit); exact rfl; exact Tryd.func26; exact rfl; exact rfl; exact (S2 _)) | ((with_reducible apply Step.callR fit); exact rfl; exact Tryd.func27; exact rfl; exact rfl; exact (hRO' _)) | ((with_reducible apply Step.callR fit); exact rfl; exact Tryd.func24; exact rfl; exact rfl; exact (haw _))) | (with_reducible refine AWo.nil ?_) | ((with_reducible apply AW.seq)) | ((with_reducible apply Then.n)) | ((with_reducible apply AW.regL)) | ((with_reducible apply AW.block)) | ((with_reducible apply AW.exit)) | ((with_reducible apply InBlk.hit)) | ((with_reducible apply InBlk.miss); exact rfl) | ((with_reducible apply Then.e)) | ((with_reducible apply AW.skip)) | ((with_reducible apply AW.condT); exact rfl; (focus ((simp only [decide_eq_true_eq, decide_eq_false_iff_not, Bool.not_eq_true', Bool.not_eq_false', Bool.not_true, Bool.not_false]; first | assumption | omega)))) | ((with_reducible apply AW.condF); exact rfl; (focus (first | rfl | (simp only [decide_eq_true_eq, decide_eq_false_iff_not, Bool.not_eq_true', Bool.not_eq_false', Bool.not_true, Bool.not_false]; first | assumption | omega))))))
        (refine AW.ret ?_; (repeat (first | refine Then.r ?_ | refine InBlk.r ?_)))
        obtain ⟨N, hN⟩ := hp
        exact ⟨_, rfl, rfl, _, by rw [hN, List.append_assoc]⟩
  | true =>
    rw [hob] at e2
    have S2 := fun T => Jb.Span_ok (hjM.old T) (hoM.old T) (by omega) e2
    have hRO' := fun T => hRO T _ hob
    rcases Nat.eq_zero_or_pos i with h0 | h0
    · have hx := hempty h0
      rcases hend with hE | ⟨hlt, h8⟩
      · (repeat (first | (with_reducible refine AWo.cons ?_) | ((with_reducible refine Step.id ?_); first | ((with_reducible apply Step.gdT); exact rfl; exact rfl; (focus (first | rfl | (simp only [decide_eq_true_eq, decide_eq_false_iff_not, Bool.not_eq_true', Bool.not_eq_false', Bool.not_true, Bool.not_false]; first | assumption | omega)))) | ((with_reducible apply Step.move); exact rfl; exact rfl) | ((with_reducible apply Step.assign); exact rfl; exact rfl) | ((with_reducible apply Step.lss); exact rfl; exact rfl; exact rfl) | ((with_reducible apply Step.eql); exact rfl; exact rfl; exact rfl) | ((with_reducible apply Step.neq); exact rfl; exact rfl; exact rfl) | ((with_reducible apply Step.neqB); exact rfl; exact rfl; exact un4; exact rfl) | ((with_reducible apply Step.len); exact rfl; (focus (assumption)); (focus (decide +kernel)); exact rfl) | ((with_reducible apply Step.extract); exact rfl; exact rfl; exact rfl) | ((with_reducible apply Step.pickT); exact rfl; exact rfl; exact rfl; exact rfl; (focus ((simp only [decide_eq_true_eq, decide_eq_false_iff_not, Bool.not_eq_true', Bool.not_eq_false', Bool.not_true, Bool.not_false]; first | assumption | omega)))) | ((with_reducible apply Step.pickF); exact rfl; exact rfl; exact rfl; exact rfl; (focus (rfl))) | ((with_reducible apply Step.callT fit (k := 0)); exact rfl; exact rfl; exact Tryd.func25; exact rfl; exact rfl; exact (hJ _); (focus (first | (simp only [List.nil_append, List.cons_append, List.set_cons_zero, List.set_cons_succ, iv_set, bv_set, iv_rep, bv_rep]; done) | (simp only [List.nil_append, List.cons_append, List.set_cons_zero, List.set_cons_succ, iv_set, bv_set, iv_rep, bv_rep]; rfl) | rfl))) | ((with_reducible apply Step.callR fit); exact rfl; exact Tryd.func26; exact rfl; exact rfl; exact (S1 _)) | ((with_reducible apply Step.callR fit); exact rfl; exact Tryd.func26; exact rfl; exact rfl; exact (S2 _)) | ((with_reducible apply Step.callR fit); exact rfl; exact Tryd.func27; exact rfl; exact rfl; exact (hRO' _)) | ((with_reducible apply Step.callR fit); exact rfl; exact Tryd.func24; exact rfl; exact rfl; exact (haw _))) | (with_reducible refine AWo.nil ?_) | ((with_reducible apply AW.seq)) | ((with_reducible apply Then.n)) | ((with_reducible apply AW.regL)) | ((with_reducible apply AW.exit)) | ((with_reducible apply InBlk.hit)) | ((with_reducible apply Then.e)) | ((with_reducible apply AW.skip)) | ((with_reducible apply AW.condT); exact rfl; (focus ((simp only [decide_eq_true_eq, decide_eq_false_iff_not, Bool.not_eq_true', Bool.not_eq_false', Bool.not_true, Bool.not_false]; first | assumption | omega)))) | ((with_reducible apply AW.condF); exact rfl; (focus (first | rfl | (simp only [decide_eq_true_eq, decide_eq_false_iff_not, Bool.not_eq_true', Bool.not_eq_false', Bool.not_true, Bool.not_false]; first | assumption | omega))))))
        (refine AW.ret ?_; (repeat (first | refine Then.r ?_ | refine InBlk.r ?_)))
        obtain ⟨N, hN⟩ := hp
        exact ⟨_, rfl, rfl, _, by rw [hN, List.append_assoc]⟩
      · omega
    · obtain ⟨b1, b2, b3⟩ := hbd h0
      have b4 := hbest hob
      rcases hend with hE | ⟨hlt, h8⟩
      · (repeat (first | (with_reducible refine AWo.cons ?_) | ((with_reducible refine Step.id ?_); first | ((with_reducible apply Step.gdT); exact rfl; exact rfl; (focus (first | rfl | (simp only [decide_eq_true_eq, decide_eq_false_iff_not, Bool.not_eq_true', Bool.not_eq_false', Bool.not_true, Bool.not_false]; first | assumption | omega)))) | ((with_reducible apply Step.move); exact rfl; exact rfl) | ((with_reducible apply Step.assign); exact rfl; exact rfl) | ((with_reducible apply Step.add); exact rfl; exact rfl; (focus (omega)); exact rfl) | ((with_reducible apply Step.lss); exact rfl; exact rfl; exact rfl) | ((with_reducible apply Step.leq); exact rfl; exact rfl; exact rfl) | ((with_reducible apply Step.geq); exact rfl; exact rfl; exact rfl) | ((with_reducible apply Step.eql); exact rfl; exact rfl; exact rfl) | ((with_reducible apply Step.neq); exact rfl; exact rfl; exact rfl) | ((with_reducible apply Step.neqB); exact rfl; exact rfl; exact un4; exact rfl) | ((with_reducible apply Step.len); exact rfl; (focus (assumption)); (focus (decide +kernel)); exact rfl) | ((with_reducible apply Step.extract); exact rfl; exact rfl; exact rfl) | ((with_reducible apply Step.pickT); exact rfl; exact rfl; exact rfl; exact rfl; (focus ((simp only [decide_eq_true_eq, decide_eq_false_iff_not, Bool.not_eq_true', Bool.not_eq_false', Bool.not_true, Bool.not_false]; first | assumption | omega)))) | ((with_reducible apply Step.pickF); exact rfl; exact rfl; exact rfl; exact rfl; (focus (rfl))) | ((with_reducible apply Step.callT fit (k := 0)); exact rfl; exact rfl; exact Tryd.func25; exact rfl; exact rfl; exact (hJ _); (focus (first | (simp only [List.nil_append, List.cons_append, List.set_cons_zero, List.set_cons_succ, iv_set, bv_set, iv_rep, bv_rep]; done) | (simp only [List.nil_append, List.cons_append, List.set_cons_zero, List.set_cons_succ, iv_set, bv_set, iv_rep, bv_rep]; rfl) | rfl))) | ((with_reducible apply Step.callR fit); exact rfl; exact Tryd.func26; exact rfl; exact rfl; exact (S1 _)) | ((with_reducible apply Step.callR fit); exact rfl; exact Tryd.func26; exact rfl; exact rfl; exact (S2 _)) | ((with_reducible apply Step.callR fit); exact rfl; exact Tryd.func27; exact rfl; exact rfl; exact (hRO' _)) | ((with_reducible apply Step.callR fit); exact rfl; exact Tryd.func24; exact rfl; exact rfl; exact (haw _))) | (with_reducible refine AWo.nil ?_) | ((with_reducible apply AW.seq)) | ((with_reducible apply Then.n)) | ((with_reducible apply AW.regL)) | ((with_reducible apply AW.exit)) | ((with_reducible apply InBlk.hit)) | ((with_reducible apply Then.e)) | ((with_reducible apply AW.skip)) | ((with_reducible apply AW.condF); exact rfl; (focus (first | rfl | (simp only [decide_eq_true_eq, decide_eq_false_iff_not, Bool.not_eq_true', Bool.not_eq_false', Bool.not_true, Bool.not_false]; first | assumption | omega))))))
        (refine AW.ret ?_; (repeat (first | refine Then.r ?_ | refine InBlk.r ?_)))
        obtain ⟨N, hN⟩ := hp
        exact ⟨_, rfl, rfl, _, by rw [hN, List.append_assoc]⟩
      · obtain ⟨w, hrw, hsw⟩ := rM i hlt
        (repeat (first | (with_reducible refine AWo.cons ?_) | ((with_reducible refine Step.id ?_); first | ((with_reducible apply Step.gdT); exact rfl; exact rfl; (focus (first | rfl | (simp only [decide_eq_true_eq, decide_eq_false_iff_not, Bool.not_eq_true', Bool.not_eq_false', Bool.not_true, Bool.not_false]; first | assumption | omega)))) | ((with_reducible apply Step.move); exact rfl; exact rfl) | ((with_reducible apply Step.assign); exact rfl; exact rfl) | ((with_reducible apply Step.load); exact rfl; (focus (decide +kernel)); exact rfl; (focus (exact Rd.old _ (by assumption)))) | ((with_reducible apply Step.ix1); exact rfl; (focus (assumption)); exact rfl; (focus (decide +kernel)); exact rfl; (focus (omega))) | ((with_reducible apply Step.add); exact rfl; exact rfl; (focus (omega)); exact rfl) | ((with_reducible apply Step.lss); exact rfl; exact rfl; exact rfl) | ((with_reducible apply Step.leq); exact rfl; exact rfl; exact rfl) | ((with_reducible apply Step.geq); exact rfl; exact rfl; exact rfl) | ((with_reducible apply Step.eql); exact rfl; exact rfl; exact rfl) | ((with_reducible apply Step.neq); exact rfl; exact rfl; exact rfl) | ((with_reducible apply Step.neqB); exact rfl; exact rfl; exact un4; exact rfl) | ((with_reducible apply Step.len); exact rfl; (focus (assumption)); (focus (decide +kernel)); exact rfl) | ((with_reducible apply Step.extract); exact rfl; exact rfl; exact rfl) | ((with_reducible apply Step.pickT); exact rfl; exact rfl; exact rfl; exact rfl; (focus ((simp only [decide_eq_true_eq, decide_eq_false_iff_not, Bool.not_eq_true', Bool.not_eq_false', Bool.not_true, Bool.not_false]; first | assumption | omega)))) | ((with_reducible apply Step.pickF); exact rfl; exact rfl; exact rfl; exact rfl; (focus (rfl))) | ((with_reducible apply Step.callT fit (k := 0)); exact rfl; exact rfl; exact Tryd.func25; exact rfl; exact rfl; exact (hJ _); (focus (first | (simp only [List.nil_append, List.cons_append, List.set_cons_zero, List.set_cons_succ, iv_set, bv_set, iv_rep, bv_rep]; done) | (simp only [List.nil_append, List.cons_append, List.set_cons_zero, List.set_cons_succ, iv_set, bv_set, iv_rep, bv_rep]; rfl) | rfl))) | ((with_reducible apply Step.callR fit); exact rfl; exact Tryd.func26; exact rfl; exact rfl; exact (S1 _)) | ((with_reducible apply Step.callR fit); exact rfl; exact Tryd.func26; exact rfl; exact rfl; exact (S2 _)) | ((with_reducible apply Step.callR fit); exact rfl; exact Tryd.func27; exact rfl; exact rfl; exact (hRO' _)) | ((with_reducible apply Step.callR fit); exact rfl; exact Tryd.func24; exact rfl; exact rfl; exact (haw _))) | (with_reducible refine AWo.nil ?_) | ((with_reducible apply AW.seq)) | ((with_reducible apply Then.n)) | ((with_reducible apply AW.regL)) | ((with_reducible apply AW.block)) | ((with_reducible apply AW.exit)) | ((with_reducible apply InBlk.hit)) | ((with_reducible apply InBlk.miss); exact rfl) | ((with_reducible apply Then.e)) | ((with_reducible apply AW.skip)) | ((with_reducible apply AW.condT); exact rfl; (focus ((simp only [decide_eq_true_eq, decide_eq_false_iff_not, Bool.not_eq_true', Bool.not_eq_false', Bool.not_true, Bool.not_false]; first | assumption | omega)))) | ((with_reducible apply AW.condF); exact rfl; (focus (first | rfl | (simp only [decide_eq_true_eq, decide_eq_false_iff_not, Bool.not_eq_true', Bool.not_eq_false', Bool.not_true, Bool.not_false]; first | assumption | omega))))))
        (refine AW.ret ?_; (repeat (first | refine Then.r ?_ | refine InBlk.r ?_)))
        obtain ⟨N, hN⟩ := hp
        exact ⟨_, rfl, rfl, _, by rw [hN, List.append_assoc]⟩
end Go.Proofs.YtedbjmgchfgabaaDoor.Abs
namespace Go.Proofs.YtedbjmgchfgabaaDoor.Abs
set_option linter.unusedSimpArgs false
set_option linter.unusedVariables false
open Go.RowKit
open Go.Proofs.YtedbjmgchfgabaaDoor.Sim
open Go.ChangeShapes Go.WideShapes Go.Deep
def RelSelf (v : Value) : Prop := ∃ c, v = .agg c ∧ ∀ R, Rel R (.agg c) (.agg c)
theorem RelSelf.kind (k : Kd) : RelSelf k.v := ⟨_, rfl, fun R => .agg _ _ rfl fun i hi => by
  simp at hi
  rcases (show i = 0 ∨ i = 1 ∨ i = 2 ∨ i = 3 ∨ i = 4 by omega) with rfl | rfl | rfl | rfl | rfl
  · exact .int _ _
  · exact .int _ _
  · exact .int _ _
  · exact .int _ _
  · exact .bool _⟩
def sv (l : List ByteArray) : List Value := l.map .string
def kb (y : List Int × Bool) : List Value := iv y.1 ++ [.bool y.2]
theorem g0_kb (y : List Int × Bool) : ∀ v ∈ kb y, g0 v = true := fun v hv => by
  rcases List.mem_append.1 hv with h | h
  · exact g0_iv _ v h
  · simp at h; subst h; rfl
def kindB (P : Program) (f : Field) : Bool := match P.underlying f.type with | some .bool => true | _ => false
def kindI (P : Program) (f : Field) : Bool := match P.underlying f.type with | some (.int .i64) => true | _ => false
def fieldsKB (P : Program) (fs : Array Field) (q : Nat) : Bool := (List.range q).all (fun j => match fs[j]? with | some f => kindI P f | none => false) && match fs[q]? with | some f => kindB P f | none => false
theorem fieldsKB_int {P : Program} {fs : Array Field} {q j : Nat} {f : Field} (h : fieldsKB P fs q = true) (hj : fs[j]? = some f) (hq : j < q) : P.underlying f.type = some (.int .i64) := by
  simp only [fieldsKB, Bool.and_eq_true] at h
  have := List.all_eq_true.1 h.1 j (List.mem_range.2 hq)
  rw [hj] at this
  simp only [kindI] at this
  split at this
  · assumption
  · cases this
theorem fieldsKB_bool {P : Program} {fs : Array Field} {q : Nat} {f : Field} (h : fieldsKB P fs q = true) (hj : fs[q]? = some f) : P.underlying f.type = some .bool := by
  simp only [fieldsKB, Bool.and_eq_true] at h
  have := h.2
  rw [hj] at this
  simp only [kindB] at this
  split at this
  · assumption
  · cases this
section
variable {H : Type} {enc : TypeId × Value → H} {P : Program} {w : World} {base : Nat} {spare : Nat → Bool} {held : Bool}
theorem arg_kb {r : Reach} {b0 : Nat} {T e : TypeId} {fs : Array Field} {a : Option Addr} {n c : Nat} {d : DataW H} {p : List MemPlace} (ht : P.underlying T = some (.slice e)) (he : P.underlying e = some (.struct fs)) (hone : oneCellFields P fs = true) (hC : P.cellsOf e = fs.size)
    {q : Nat} (hq : fs.size = q + 1) (hi : fieldsKB P fs q = true) (hok : Value.okWide P w r b0 T (.slice a n c)) (h : DataW.Trod enc P w base spare held T (.slice a n c) d p) :
    ∃ F : Nat → List Int × Bool, (∀ k, (F k).1.length = q) ∧ n ≤ maxLen ∧ Okarg w (.slice a n c, (List.range n).flatMap fun k => kb (F k)) ∧ (∀ M : AM, ∀ i, M[i]? = some (mkB (.slice a n c, (List.range n).flatMap fun k => kb (F k))) → Sl (mkV i (.slice a n c)) i 0 n ∧ i < M.length ∧ ∀ k, k < n → RdL M i (0 + k * fs.size) (kb (F k))) := by
  obtain ⟨fuel, h⟩ := h
  rcases ok_slice ht hok with ⟨rfl, rfl, rfl⟩ | ⟨b, o, rfl, hle, hlt⟩
  · exact ⟨fun _ => (List.replicate q 0, false), fun _ => by simp, by unfold maxLen; omega, .inl rfl, fun M i hi => ⟨.inl ⟨rfl, rfl⟩, (List.getElem?_eq_some_iff.1 hi).1, fun k hk => by omega⟩⟩
  · rcases open_slice_fields ht he hone hC h with ⟨hcs, _⟩ | ⟨x, l, cap, m, D, Pl, hcs, _, hl, hm, hmm, _, hrow⟩
    · simp [Value.cells] at hcs
    · simp [Value.cells] at hcs
      obtain ⟨rfl, rfl, rfl⟩ := hcs
      have key : ∀ k : Nat, ∃ y : List Int × Bool, y.1.length = q ∧ (k < n → ∀ j v, (kb y)[j]? = some v → w.cell? ⟨b, o + (k * fs.size + j), none⟩ = some v) := fun k => by
        by_cases hk : k < n
        · obtain ⟨ys, nn, _, _, _, hf⟩ := hrow k (by rw [hmm]; split <;> omega)
          have key2 : ∀ j : Nat, ∃ z : Int, j < q → w.cell? ⟨b, o + (k * fs.size + j), none⟩ = some (.int .i64 z) := fun j => by
            by_cases hj : j < q
            · obtain ⟨v, y, h1, _, h3⟩ := hf j fs[j] (Array.getElem?_eq_getElem (by omega))
              obtain ⟨z, hz, _⟩ := DataW.trod_int (fieldsKB_int hi (Array.getElem?_eq_getElem (by omega)) hj) h3
              simp at hz
              subst hz
              rw [Addr.add_lit] at h1
              exact ⟨z, fun _ => h1⟩
            · exact ⟨0, fun h => absurd h hj⟩
          obtain ⟨g, hg⟩ := Classical.axiomOfChoice key2
          obtain ⟨v, y, h1, _, h3⟩ := hf q (fs[q]'(by omega)) (Array.getElem?_eq_getElem (by omega))
          obtain ⟨z, hz, _⟩ := DataW.trod_bool (fieldsKB_bool hi (Array.getElem?_eq_getElem (by omega))) h3
          simp at hz
          subst hz
          rw [Addr.add_lit] at h1
          refine ⟨((List.range q).map g, z), by simp, fun _ j v hj => ?_⟩
          unfold kb at hj
          rcases Nat.lt_trichotomy j q with h | rfl | h
          · rw [List.getElem?_append_left (by simpa [iv] using h), iv_get (by simpa using h)] at hj
            injection hj with hj
            rw [hg j h, ← hj]
            simp [h]
          · rw [List.getElem?_append_right (by simp [iv])] at hj
            simp [iv] at hj
            rw [← hj]; exact h1
          · rw [List.getElem?_eq_none (by simp [iv]; omega)] at hj
            cases hj
        · exact ⟨(List.replicate q 0, false), by simp, fun h => absurd h hk⟩
      obtain ⟨F, hF⟩ := Classical.axiomOfChoice key
      have hlenF : ∀ k, (kb (F k)).length = fs.size := fun k => by unfold kb; rw [List.length_append, iv_len, (hF k).1, hq]; rfl
      have get : ∀ q, ∀ k, k < q → ∀ j v, (kb (F k))[j]? = some v → ((List.range q).flatMap fun k => kb (F k))[k * fs.size + j]? = some v := by
        intro q
        induction q with
        | zero => intro k hk; omega
        | succ q ih =>
          intro k hk j v hj
          have hjl : j < fs.size := by
            have := (List.getElem?_eq_some_iff.1 hj).1
            rwa [hlenF] at this
          have hql : ((List.range q).flatMap fun k => kb (F k)).length = q * fs.size := by
            clear ih hk hj
            induction q with
            | zero => simp
            | succ q ih2 => rw [List.range_succ, List.flatMap_append, List.length_append, ih2]; simp [hlenF, Nat.add_mul]
          rw [List.range_succ, List.flatMap_append]
          rcases Nat.lt_succ_iff_lt_or_eq.1 hk with h' | h'
          · have h2 : k * fs.size + fs.size ≤ q * fs.size := by
              have := Nat.mul_le_mul_right fs.size (show k + 1 ≤ q by omega)
              rw [Nat.add_mul] at this; omega
            rw [List.getElem?_append_left (by rw [hql]; omega)]
            exact ih k h' j v hj
          · subst h'
            rw [List.getElem?_append_right (by rw [hql]; omega), hql, Nat.add_sub_cancel_left]
            simpa using hj
      have tot : ∀ q, ((List.range q).flatMap fun k => kb (F k)).length = q * fs.size := fun q => by
        induction q with
        | zero => simp
        | succ q ih2 => rw [List.range_succ, List.flatMap_append, List.length_append, ih2]; simp [hlenF, Nat.add_mul]
      refine ⟨F, fun k => (hF k).1, by omega, .inr ⟨b, o, n, c, rfl, hle, hlt, fun j x hj => ?_, fun x hx => ?_⟩, fun M i hM => ?_⟩
      · have hjl := (List.getElem?_eq_some_iff.1 hj).1
        simp only at hjl hj
        rw [tot] at hjl
        have hs : 0 < fs.size := by
          rcases Nat.eq_zero_or_pos fs.size with h0 | h0
          · rw [h0] at hjl; omega
          · exact h0
        have hk : j / fs.size < n := (Nat.div_lt_iff_lt_mul hs).2 hjl
        have hr : j % fs.size < fs.size := Nat.mod_lt _ hs
        have e : j = j / fs.size * fs.size + j % fs.size := by rw [Nat.mul_comm]; exact (Nat.div_add_mod j fs.size).symm
        obtain ⟨v, hv⟩ : ∃ v, (kb (F (j / fs.size)))[j % fs.size]? = some v := ⟨_, List.getElem?_eq_getElem (by rw [hlenF]; exact hr)⟩
        have h1 := get n (j / fs.size) hk (j % fs.size) v hv
        rw [← e] at h1
        rw [h1] at hj
        injection hj with hj
        have h2 := (hF (j / fs.size)).2 hk (j % fs.size) v hv
        rw [← e] at h2
        rw [h2, hj]
      · obtain ⟨k, _, hk⟩ := List.mem_flatMap.1 hx
        exact g0_kb _ x hk
      · simp only [mkB] at hM
        refine ⟨Sl.mk (Nat.le_refl _), (List.getElem?_eq_some_iff.1 hM).1, fun k hk => ⟨_, hM, fun j v hj => ?_⟩⟩
        rw [Nat.zero_add]
        exact get n k hk j v hj
def kv (l : List Kd) : List Value := l.flatMap Kd.cells
theorem arg_kinds {r : Reach} {b0 : Nat} {T e : TypeId} {fs : Array Field} {a : Option Addr} {n c : Nat} {d : DataW H} {p : List MemPlace} (ht : P.underlying T = some (.slice e)) (he : P.underlying e = some (.struct fs)) (hone : oneCellFields P fs = true) (hC : P.cellsOf e = fs.size)
    (hq : fs.size = 4 + 1) (hi : fieldsKB P fs 4 = true) (hok : Value.okWide P w r b0 T (.slice a n c)) (h : DataW.Trod enc P w base spare held T (.slice a n c) d p) :
    ∃ l : List Kd, l.length = n ∧ n ≤ maxLen ∧ Okarg w (.slice a n c, kv l) ∧ ∀ M : AM, ∀ i, M[i]? = some (mkB (.slice a n c, kv l)) → Kds M (mkV i (.slice a n c)) l := by
  obtain ⟨F, h1, h2, h3, h4⟩ := arg_kb ht he hone hC hq hi hok h
  have key : ∀ k, ∃ x : Kd, kb (F k) = x.cells := fun k => by
    have hk := h1 k
    generalize F k = y at hk ⊢
    obtain ⟨l, b⟩ := y
    simp only at hk
    match l, hk with
    | [x, y, z, u], _ => exact ⟨⟨x, y, z, u, b⟩, rfl⟩
  obtain ⟨G, hG⟩ := Classical.axiomOfChoice key
  have e : ((List.range n).flatMap fun k => kb (F k)) = kv ((List.range n).map G) := by
    unfold kv
    rw [List.flatMap_map]
    congr 1
    funext k
    exact hG k
  rw [e] at h3 h4
  refine ⟨(List.range n).map G, by simp, h2, h3, fun M i hM => ?_⟩
  obtain ⟨k1, k2, k3⟩ := h4 M i hM
  refine ⟨i, 0, by simpa using k1, k2, fun k hk => ?_⟩
  simp at hk
  have := k3 k hk
  rw [hq, hG k] at this
  have eg : ((List.range n).map G).getD k default = G k := by simp [hk]
  rw [eg]
  exact this
end
end Go.Proofs.YtedbjmgchfgabaaDoor.Abs
namespace Go.Proofs.YtedbjmgchfgabaaDoor.Abs
set_option linter.unusedSimpArgs false
set_option linter.unusedVariables false
open Go.RowKit
open Go.Proofs.YtedbjmgchfgabaaDoor.Sim
open Go.Proofs
open Go.ChangeShapes Go.WideShapes Go.Deep
section
variable {H : Type} {enc : TypeId × Value → H} {P : Program} {w : World} {base : Nat} {held : Bool}
theorem sv_getI (l : List ByteArray) {j : Nat} (h : j < l.length) : (sv l)[j]? = some (.string (l[j])) := by simp [sv, h]
theorem strs_sl {T e : TypeId} {fuel : Nat} {v : Value} {d : DataW H × List MemPlace} (ht : P.underlying T = some (.slice e)) (he : P.underlying e = some .string) (hce : P.cellsOf e = 1) (h : DataW.trod enc P w base (fun _ => true) held fuel T [v] = some d) :
    ∃ l : List ByteArray, (∀ R, OkB w R (v, sv l)) ∧ ∀ (bs : List AR) (i : Nat), bs[i]? = some (v, sv l) → Strs (bs.map mkB2) (mkV2 i v) l := by
  rcases open_strs ht he hce h with ⟨hcs, _⟩ | ⟨x, n, c, m, S, hcs, _, hl, hm, hmm, _, hcell⟩
  · obtain rfl : v = .slice none 0 0 := by simpa using hcs
    exact ⟨[], fun R => .inl rfl, fun bs i hi => ⟨i, 0, .inl ⟨rfl, rfl⟩, by simp; exact (List.getElem?_eq_some_iff.1 hi).1, fun k hk => by simp at hk⟩⟩
  · obtain rfl : v = .slice (some x) n c := by simpa using hcs
    rw [if_pos rfl] at hmm
    cases c with
    | zero =>
      obtain rfl : n = 0 := by omega
      refine ⟨[], fun R => .inr (.inl ⟨x, rfl⟩), fun bs i hi => ?_⟩
      have hlt : i < (bs.map mkB2).length := by simp; exact (List.getElem?_eq_some_iff.1 hi).1
      obtain ⟨b, o, sp⟩ := x
      cases sp with
      | none => exact ⟨i, 0, Sl.mk (Nat.le_refl _), hlt, fun k hk => by simp at hk⟩
      | some k => exact ⟨i, 0, .inr (.inr ⟨rfl, 0, k, rfl⟩), hlt, fun k hk => by simp at hk⟩
    | succ c =>
      obtain ⟨b, o, sp⟩ := x
      have h0 := cell_some (hcell 0 (by omega)).1
      obtain rfl : sp = none := h0.1
      have hb : b < w.heap.size := h0.2
      have hlen : ((List.range n).map S).length = n := by simp
      refine ⟨(List.range n).map S, fun R => .inr (.inr ⟨b, o, n, c, rfl, hl, hb, fun j x hj => ?_⟩), fun bs i hi => ?_⟩
      · have hjn : j < n := by
          have := (List.getElem?_eq_some_iff.1 hj).1
          simpa [sv] using this
        rw [sv_getI _ (by rw [hlen]; exact hjn)] at hj
        have := (hcell j (by omega)).1
        rw [Addr.add_lit] at this
        refine ⟨_, this, ?_⟩
        injection hj with hj
        rw [← hj]
        simp only [List.getElem_map, List.getElem_range]
        exact .string _
      · have hM : (bs.map mkB2)[i]? = some (some { cells := sv ((List.range n).map S), kind := .ro }) := by rw [List.getElem?_map, hi]; rfl
        refine ⟨i, 0, by rw [hlen]; exact Sl.mk (Nat.le_refl _), (List.getElem?_eq_some_iff.1 hM).1, fun y hy => ⟨_, hM, ?_⟩⟩
        rw [Nat.zero_add]
        simp only
        rw [sv_getI _ hy]
        unfold rowOf
        rw [getD_in _ _ hy]
/-- The cells of n boards; board k lies in block e0 + k. -/
def brC (s : Nat → Value) (e0 n : Nat) : List Value := (List.range n).map fun k => mkV2 (e0 + k) (s k)
theorem brC_get (s : Nat → Value) (e0 : Nat) {n k : Nat} (h : k < n) : (brC s e0 n)[k]? = some (mkV2 (e0 + k) (s k)) := by simp [brC, h]
theorem arg_boards {r : Reach} {b0 : Nat} {T e tI : TypeId} {a : Option Addr} {n c : Nat} {d : DataW H} {p : List MemPlace} (ht : P.underlying T = some (.slice e)) (he : P.underlying e = some (.slice tI)) (hce : P.cellsOf e = 1) (hI : P.underlying tI = some .string) (hcI : P.cellsOf tI = 1)
    (hok : Value.okWide P w r b0 T (.slice a n c)) (h : DataW.Trod enc P w base (fun _ => true) held T (.slice a n c) d p) :
    ∃ (F : Nat → Brd) (s : Nat → Value), n ≤ maxLen ∧ (∀ R k, OkB w R (s k, sv (F k))) ∧
      (∀ (bs : List AR) (e0 : Nat), (∀ k, k < n → bs[e0 + k]? = some (s k, sv (F k))) → OkB w (plN bs) (.slice a n c, brC s e0 n)) ∧
      (∀ (bs : List AR) (i e0 : Nat), bs[i]? = some (.slice a n c, brC s e0 n) → (∀ k, k < n → bs[e0 + k]? = some (s k, sv (F k))) → Brds (bs.map mkB2) (mkV2 i (.slice a n c)) ((List.range n).map F)) := by
  obtain ⟨fuel, h⟩ := h
  rcases ok_slice ht hok with ⟨rfl, rfl, rfl⟩ | ⟨b, o, rfl, hle, hlt⟩
  · exact ⟨fun _ => [], fun _ => .slice none 0 0, by unfold maxLen; omega, fun R k => .inl rfl, fun bs e0 _ => .inl rfl, fun bs i e0 hi _ =>
      ⟨i, 0, .inl ⟨rfl, rfl⟩, by simp; exact (List.getElem?_eq_some_iff.1 hi).1, fun k hk => by simp at hk⟩⟩
  · rcases open_slice1 ht hce h with ⟨hcs, _⟩ | ⟨x, l, cap, m, fu, V, D, Pl, hcs, _, hl, hm, hmm, _, hx⟩
    · simp [Value.cells] at hcs
    · simp [Value.cells] at hcs
      obtain ⟨rfl, rfl, rfl⟩ := hcs
      rw [if_pos rfl] at hmm
      have key : ∀ k : Nat, ∃ q : Brd × Value, (∀ R, OkB w R (q.2, sv q.1)) ∧ (∀ (bs : List AR) (i : Nat), bs[i]? = some (q.2, sv q.1) → Strs (bs.map mkB2) (mkV2 i q.2) q.1) ∧ (k < n → w.cell? ⟨b, o + k, none⟩ = some q.2) := fun k => by
        by_cases hk : k < n
        · obtain ⟨h1, h3⟩ := hx k (by omega)
          rw [Addr.add_lit] at h1
          obtain ⟨l, l2, l3⟩ := strs_sl he hI hcI h3
          exact ⟨(l, V k), l2, l3, fun _ => h1⟩
        · exact ⟨([], .slice none 0 0), fun R => .inl rfl, fun bs i hi => ⟨i, 0, .inl ⟨rfl, rfl⟩, by simp; exact (List.getElem?_eq_some_iff.1 hi).1, fun k hk => by simp at hk⟩, fun h => absurd h hk⟩
      obtain ⟨G, hG⟩ := Classical.axiomOfChoice key
      refine ⟨fun k => (G k).1, fun k => (G k).2, by omega, fun R k => (hG k).1 R, fun bs e0 hbs => ?_, fun bs i e0 hi hbs => ?_⟩
      · cases c with
        | zero =>
          obtain rfl : n = 0 := by omega
          exact .inr (.inl ⟨⟨b, o, none⟩, rfl⟩)
        | succ c =>
          refine .inr (.inr ⟨b, o, n, c, rfl, hle, hlt, fun j x hj => ?_⟩)
          have hjn : j < n := by
            have := (List.getElem?_eq_some_iff.1 hj).1
            simpa [brC] using this
          simp only at hj
          rw [brC_get _ _ hjn] at hj
          injection hj with hj
          subst hj
          exact ⟨_, (hG j).2.2 hjn, relN (hbs j hjn) ((hG j).1 (fun _ => none))⟩
      · have hlen : i < (bs.map mkB2).length := by simp; exact (List.getElem?_eq_some_iff.1 hi).1
        refine ⟨i, 0, by simpa [mkV2] using Sl.mk (Nat.le_refl n), hlen, fun k hk => ?_⟩
        have hk' : k < n := by simpa using hk
        have eg : ((List.range n).map fun k => (G k).1).getD k [] = (G k).1 := by simp [hk']
        rw [eg]
        refine ⟨mkV2 (e0 + k) (G k).2, ?_, (hG k).2.1 bs (e0 + k) (hbs k hk')⟩
        cases c with
        | zero => omega
        | succ c =>
          refine ⟨{ cells := brC (fun k => (G k).2) e0 n, kind := .ro }, by rw [List.getElem?_map, hi]; rfl, ?_⟩
          rw [Nat.zero_add]
          exact brC_get (fun k => (G k).2) e0 hk'
/-- Kinds beside nested arguments. -/
theorem kinds2 {a : Option Addr} {n c : Nat} {l : List Kd} (hn : l.length = n) (hok : Okarg w (.slice a n c, kv l)) (hx : ∀ M : AM, ∀ i, M[i]? = some (mkB (.slice a n c, kv l)) → Kds M (mkV i (.slice a n c)) l) :
    (∀ R, OkB w R (.slice a n c, kv l)) ∧ ∀ (bs : List AR) (i : Nat), bs[i]? = some (.slice a n c, kv l) → Kds (bs.map mkB2) (mkV2 i (.slice a n c)) l := by
  rcases hok with h1 | ⟨b, o, n', cap, h1, h2, h3, h4, h5⟩
  · cases a with
    | some x => simp [g0] at h1
    | none =>
      refine ⟨fun R => .inl h1, fun bs i hi => ?_⟩
      have hlt : i < (bs.map mkB2).length := by simp; exact (List.getElem?_eq_some_iff.1 hi).1
      have := hx (bs.map mkB2) i (by rw [List.getElem?_map, hi]; cases c <;> rfl)
      simpa [mkV, mkV2] using this
  · simp only at h1
    injection h1 with e1 e2 e3
    subst e1 e2 e3
    cases c with
    | zero =>
      obtain rfl : n = 0 := by omega
      obtain rfl : l = [] := List.eq_nil_of_length_eq_zero hn
      refine ⟨fun R => .inr (.inl ⟨_, rfl⟩), fun bs i hi => ?_⟩
      have hlt : i < (bs.map mkB2).length := by simp; exact (List.getElem?_eq_some_iff.1 hi).1
      exact ⟨i, 0, Sl.mk (Nat.le_refl _), hlt, fun k hk => by simp at hk⟩
    | succ c =>
      refine ⟨fun R => .inr (.inr ⟨b, o, n, c, rfl, h2, h3, fun j x hj => ⟨x, h4 j x hj, g0_rel (h5 x (List.mem_of_getElem? hj))⟩⟩), fun bs i hi => ?_⟩
      exact hx (bs.map mkB2) i (by rw [List.getElem?_map, hi]; rfl)
end
end Go.Proofs.YtedbjmgchfgabaaDoor.Abs
