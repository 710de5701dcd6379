/- Proved here: what the proof of BenchChain rests on, part 4 of 4. Conditions: those that each theorem names. -/
import Derived.Test.YtmomjannlnafcaaBenchChainK3
namespace Go.Proofs.Ytmomjannlnafcaa.Abs
set_option linter.unusedSimpArgs false
set_option linter.unusedVariables false
open Go.RowKit
open Go.Proofs.Ytmomjannlnafcaa.Sim
def depL (acc : List (Nat × Value)) (D : List Nat) : List (Nat × Value) := D.map fun j => acc.getD j (0, undef)
def AWf (P : Program) (nt : Nat) (m : AM) (ops : Array Oper) (bs : List (Nat × Value)) : List Oper → List (List Nat) → List (Nat × Value) → (List (Nat × Value) → Prop) → Prop
  | [], _, acc, Q => Q acc
  | o :: rest, D, acc, Q => ∃ d v, o.dst = some d ∧ Step P nt ops o (fr (depL acc (D.headD []) ++ bs)) m (fun t' m' => t' d = some v ∧ m' = m) ∧ AWf P nt m ops bs rest D.tail ((d, v) :: acc) Q
section
variable {P : Program} {nt : Nat} {t : Fm} {m m0 : AM} {l : List Oper} {bs : List (Nat × Value)}
theorem AWf.cons {ops : Array Oper} {o : Oper} {rest : List Oper} {dd : List Nat} {D : List (List Nat)} {acc : List (Nat × Value)} {Q : List (Nat × Value) → Prop} {d : Nat} {v : Value} (hd : o.dst = some d) (h : Step P nt ops o (fr (depL acc dd ++ bs)) m (fun t' m' => t' d = some v ∧ m' = m)) (hr : AWf P nt m ops bs rest D ((d, v) :: acc) Q) :
    AWf P nt m ops bs (o :: rest) (dd :: D) acc Q := ⟨d, v, hd, h, hr⟩
theorem AWf.nil {ops : Array Oper} {D : List (List Nat)} {acc : List (Nat × Value)} {Q : List (Nat × Value) → Prop} (h : Q acc) : AWf P nt m ops bs [] D acc Q := h
theorem AWf.get {ops : Array Oper} : ∀ {rest : List Oper} {D : List (List Nat)} {acc : List (Nat × Value)} {Q : List (Nat × Value) → Prop}, AWf P nt m ops bs rest D acc Q → ∃ a1 : List (Nat × Value), a1.length = rest.length ∧ Q (a1.reverse ++ acc) ∧ ∀ i o, rest[i]? = some o → ∃ d v, a1[i]? = some (d, v) ∧ o.dst = some d ∧ Step P nt ops o (fr (depL ((a1.take i).reverse ++ acc) (D.getD i []) ++ bs)) m (fun t' m' => t' d = some v ∧ m' = m)
  | [], _, acc, Q, h => ⟨[], rfl, h, fun i o ho => by simp at ho⟩
  | o :: rest, D, acc, Q, h => by
    obtain ⟨d, v, hd, h1, h2⟩ := h
    obtain ⟨a1, g1, g2, g3⟩ := AWf.get h2
    refine ⟨(d, v) :: a1, by simp [g1], by rw [List.reverse_cons, List.append_assoc]; exact g2, fun i o' ho => ?_⟩
    cases i with
    | zero =>
      simp only [List.getElem?_cons_zero, Option.some.injEq] at ho
      subst ho
      refine ⟨d, v, rfl, hd, ?_⟩
      rw [List.take_zero, List.reverse_nil, List.nil_append]
      cases D <;> exact h1
    | succ i =>
      simp only [List.getElem?_cons_succ] at ho ⊢
      obtain ⟨d', v', k1, k2, k3⟩ := g3 i o' ho
      refine ⟨d', v', k1, k2, ?_⟩
      rw [List.take_succ_cons, List.reverse_cons, List.append_assoc]
      have : D.tail.getD i [] = D.getD (i + 1) [] := by cases D <;> simp
      rw [this] at k3
      exact k3
end
def AWfL (P : Program) (nt : Nat) (m : AM) (ops : Array Oper) (bs : List (Nat × Value)) (K : Fm → AM → Prop) : List Oper → List (List Nat) → List (Nat × Value) → Prop
  | [], _, _ => False
  | [o], _, acc => Step P nt ops o (fr (acc ++ bs)) m K
  | o :: o' :: rest, D, acc => ∃ d v, o.dst = some d ∧ Step P nt ops o (fr (depL acc (D.headD []) ++ bs)) m (fun t' m' => t' d = some v ∧ m' = m) ∧ AWfL P nt m ops bs K (o' :: rest) D.tail ((d, v) :: acc)
section
variable {P : Program} {nt : Nat} {t : Fm} {m m0 : AM} {l : List Oper} {bs : List (Nat × Value)} {K : Fm → AM → Prop}
theorem AWfL.cons {ops : Array Oper} {o o' : Oper} {rest : List Oper} {dd : List Nat} {D : List (List Nat)} {acc : List (Nat × Value)} {d : Nat} {v : Value} (hd : o.dst = some d) (h : Step P nt ops o (fr (depL acc dd ++ bs)) m (fun t' m' => t' d = some v ∧ m' = m)) (hr : AWfL P nt m ops bs K (o' :: rest) D ((d, v) :: acc)) :
    AWfL P nt m ops bs K (o :: o' :: rest) (dd :: D) acc := ⟨d, v, hd, h, hr⟩
theorem AWfL.last {ops : Array Oper} {o : Oper} {D : List (List Nat)} {acc : List (Nat × Value)} (h : Step P nt ops o (fr (acc ++ bs)) m K) : AWfL P nt m ops bs K [o] D acc := h
theorem AWfL.split {ops : Array Oper} : ∀ {l : List Oper} {D : List (List Nat)} {acc : List (Nat × Value)}, AWfL P nt m ops bs K l D acc → ∃ l' last, l = l' ++ [last] ∧ AWf P nt m ops bs l' D acc (fun acc => Step P nt ops last (fr (acc ++ bs)) m K)
  | [], _, _, h => h.elim
  | [o], D, acc, h => ⟨[], o, rfl, h⟩
  | o :: o' :: rest, D, acc, h => by
    obtain ⟨d, v, hd, h1, h2⟩ := h
    obtain ⟨l', last, e, h3⟩ := AWfL.split h2
    exact ⟨o :: l', last, by rw [e]; rfl, d, v, hd, h1, h3⟩
end
/-- The call's own blocks are let go, the others may have been turned since. -/
theorem Gc.cut {t : Fm} {m0 M L : AM} {l : List (Nat × Value)} (hl : m0.length ≤ M.length) (hM : ∀ (j : Nat) (b : Blk), M[j]? = some (some b) → (j < m0.length ∧ m0[j]? = some (some b)) ∨ (isMapK b.kind = false ∧ ∀ v ∈ b.cells, Ren rid M.length v v)) (h : All (fun i v => t i = some v ∧ Ren rid M.length v v) l) : Gc m0 t (M ++ L) (fr l) M :=
  ⟨rid, hl, fun _ _ => rfl, fun _ _ _ _ _ _ e => e, fun j b hj => by
    rcases hM j b hj with ⟨h1, h2⟩ | ⟨h1, h2⟩
    · exact .inl ⟨h1, get_old L hj, h2⟩
    · exact .inr ⟨h1, b, get_old L hj, rfl, rfl, rfl, fun k v hk => ⟨v, hk, h2 v (List.mem_of_getElem? hk)⟩⟩, fun i v hi => by
    obtain ⟨h1, h2⟩ := fr_all h i v hi
    exact ⟨v, h1, h2⟩⟩
end Go.Proofs.Ytmomjannlnafcaa.Abs
namespace Go.Proofs.Ytmomjannlnafcaa.Abs
set_option linter.unusedSimpArgs false
set_option linter.unusedVariables false
open Go.RowKit
open Go.Proofs.Ytmomjannlnafcaa.Sim
/-- What an operation comes to: a value; a new block with the value that names it; a block made here is filled. -/
inductive Ent | val (d : Nat) (v : Value) | cp (d k : Nat) (f : Nat → Value) | mk (d : Nat) (f : Nat → Value) (b : Option Blk) | fill (k : Nat) (b : Option Blk)
def Ent.pr (p : Nat → Nat) (i : Nat) : Ent → List (Nat × Value)
  | .val d v => [(d, v)]
  | .cp d k f => [(d, f (p k))]
  | .mk d f _ => [(d, f (p i))]
  | .fill .. => []
/-- Of a list with the last one ahead: the n-th from behind. -/
def depG (p : Nat → Nat) (acc : List Ent) (D : List Nat) : List (Nat × Value) := D.flatMap fun j => (acc.getD j (.fill 0 none)).pr p (acc.length - 1 - j)
def fillOf (k : Nat) : List Ent → Option (Option Blk)
  | [] => none
  | .fill j b :: acc => if j = k then some b else fillOf k acc
  | _ :: acc => fillOf k acc
section
variable (P : Program) (nt : Nat) (m : AM) (ops : Array Oper) (bs : List (Nat × Value))
def EntOk (o : Oper) (dd : List Nat) (acc : List Ent) : Ent → Prop
  | .val d v => o.dst = some d ∧ ∀ p : Nat → Nat, (∀ k, m.length ≤ p k) → ∀ N : AM, Step P nt ops o (fr (depG p acc dd ++ bs)) (m ++ N) (fun t' m' => t' d = some v ∧ m' = m ++ N)
  | .cp d k f => o.dst = some d ∧ k < acc.length ∧ acc.length - 1 - k ∈ dd ∧ ∀ p : Nat → Nat, (∀ k, m.length ≤ p k) → ∀ N : AM, Step P nt ops o (fr (depG p acc dd ++ bs)) (m ++ N) (fun t' m' => t' d = some (f (p k)) ∧ m' = m ++ N)
  | .mk d f b => o.dst = some d ∧ ∀ p : Nat → Nat, (∀ k, m.length ≤ p k) → ∀ N : AM, Step P nt ops o (fr (depG p acc dd ++ bs)) (m ++ N) (fun t' m' => t' d = some (f (m ++ N).length) ∧ m' = (m ++ N) ++ [b])
  | .fill k b => o.dst = none ∧ fillOf k acc = none ∧ k < acc.length ∧ acc.length - 1 - k ∈ dd ∧ ∃ d f b0, acc[acc.length - 1 - k]? = some (.mk d f b0) ∧
      ∀ p : Nat → Nat, (∀ k, m.length ≤ p k) → ∀ M : AM, M[p k]? = some b0 → Step P nt ops o (fr (depG p acc dd ++ bs)) M (fun _ m' => m' = M.set (p k) b)
def AWg : List Oper → List (List Nat) → List Ent → (List Ent → Prop) → Prop
  | [], _, acc, Q => Q acc
  | o :: rest, D, acc, Q => ∃ e, EntOk P nt m ops bs o (D.headD []) acc e ∧ AWg rest D.tail (e :: acc) Q
end
section
variable {P : Program} {nt : Nat} {t : Fm} {m m0 : AM} {ops : Array Oper} {l : List Oper} {bs : List (Nat × Value)} {o : Oper} {rest : List Oper} {dd : List Nat} {D : List (List Nat)} {acc : List Ent} {Q : List Ent → Prop} {d : Nat} {v : Value}
theorem AWg.val (hd : o.dst = some d) (h : ∀ p : Nat → Nat, (∀ k, m.length ≤ p k) → ∀ N : AM, Step P nt ops o (fr (depG p acc dd ++ bs)) (m ++ N) (fun t' m' => t' d = some v ∧ m' = m ++ N)) (hr : AWg P nt m ops bs rest D (.val d v :: acc) Q) : AWg P nt m ops bs (o :: rest) (dd :: D) acc Q := ⟨.val d v, ⟨hd, h⟩, hr⟩
theorem AWg.ptr {b : Option Blk} (hd : o.dst = some d) (h : ∀ p : Nat → Nat, (∀ k, m.length ≤ p k) → ∀ N : AM, Step P nt ops o (fr (depG p acc dd ++ bs)) (m ++ N) (fun t' m' => t' d = some (.pointer (some ⟨(m ++ N).length, 0, none⟩)) ∧ m' = (m ++ N) ++ [b])) (hr : AWg P nt m ops bs rest D (.mk d (fun a => .pointer (some ⟨a, 0, none⟩)) b :: acc) Q) : AWg P nt m ops bs (o :: rest) (dd :: D) acc Q := ⟨.mk d (fun a => .pointer (some ⟨a, 0, none⟩)) b, ⟨hd, h⟩, hr⟩
theorem AWg.new (f : Nat → Value) {b : Option Blk} (hd : o.dst = some d) (h : ∀ p : Nat → Nat, (∀ k, m.length ≤ p k) → ∀ N : AM, Step P nt ops o (fr (depG p acc dd ++ bs)) (m ++ N) (fun t' m' => t' d = some (f (m ++ N).length) ∧ m' = (m ++ N) ++ [b])) (hr : AWg P nt m ops bs rest D (.mk d f b :: acc) Q) : AWg P nt m ops bs (o :: rest) (dd :: D) acc Q := ⟨.mk d f b, ⟨hd, h⟩, hr⟩
theorem AWg.fill (k : Nat) {d0 : Nat} {f0 : Nat → Value} {b b0 : Option Blk} (hd : o.dst = none) (h1 : fillOf k acc = none) (h2 : k < acc.length) (h3 : acc.length - 1 - k ∈ dd) (h4 : acc[acc.length - 1 - k]? = some (.mk d0 f0 b0))
    (h : ∀ p : Nat → Nat, (∀ k, m.length ≤ p k) → ∀ M : AM, M[p k]? = some b0 → Step P nt ops o (fr (depG p acc dd ++ bs)) M (fun _ m' => m' = M.set (p k) b)) (hr : AWg P nt m ops bs rest D (.fill k b :: acc) Q) : AWg P nt m ops bs (o :: rest) (dd :: D) acc Q := ⟨.fill k b, ⟨hd, h1, h2, h3, d0, f0, b0, h4, h⟩, hr⟩
section
variable {T : Nat} {pos : String} {af : Array Edge} {ty : TypeId} {b b0 : Option Blk}
end
theorem AWg.nil (h : Q acc) : AWg P nt m ops bs [] D acc Q := h
theorem AWg.get : ∀ {rest : List Oper} {D : List (List Nat)} {acc : List Ent} {Q : List Ent → Prop}, AWg P nt m ops bs rest D acc Q → ∃ a1 : List Ent, a1.length = rest.length ∧ Q (a1.reverse ++ acc) ∧ ∀ i o, rest[i]? = some o → ∃ e, a1[i]? = some e ∧ EntOk P nt m ops bs o (D.getD i []) ((a1.take i).reverse ++ acc) e
  | [], _, acc, Q, h => ⟨[], rfl, h, fun i o ho => by simp at ho⟩
  | o :: rest, D, acc, Q, h => by
    obtain ⟨e, h1, h2⟩ := h
    obtain ⟨a1, g1, g2, g3⟩ := AWg.get h2
    refine ⟨e :: a1, by simp [g1], by rw [List.reverse_cons, List.append_assoc]; exact g2, fun i o' ho => ?_⟩
    cases i with
    | zero =>
      simp only [List.getElem?_cons_zero, Option.some.injEq] at ho
      subst ho
      refine ⟨e, rfl, ?_⟩
      rw [List.take_zero, List.reverse_nil, List.nil_append]
      cases D <;> exact h1
    | succ i =>
      simp only [List.getElem?_cons_succ] at ho ⊢
      obtain ⟨e', k1, k2⟩ := g3 i o' ho
      refine ⟨e', k1, ?_⟩
      rw [List.take_succ_cons, List.reverse_cons, List.append_assoc]
      have : D.tail.getD i [] = D.getD (i + 1) [] := by cases D <;> simp
      rw [this] at k2
      exact k2
end
end Go.Proofs.Ytmomjannlnafcaa.Abs
namespace Go.Proofs.Ytmomjannlnafcaa.Abs
set_option linter.unusedSimpArgs false
set_option linter.unusedVariables false
open Go.RowKit
open Go.Proofs.Ytmomjannlnafcaa.Sim
/-- A slice that names a whole row of one's own: n elements of s cells each. -/
def Row (M : AM) (b0 s : Nat) (u : Value) (c : List Value) (n : Nat) : Prop :=
  (u = .slice none 0 0 ∧ c = [] ∧ n = 0) ∨ ∃ (a : Nat) (kd : Kind) (sz : Nat), b0 ≤ a ∧ u = .slice (some ⟨a, 0, none⟩) n n ∧ M[a]? = some (some { cells := c, kind := kd, size := sz }) ∧ c.length = n * s ∧ (kd = .own ∨ kd = .grow ∧ sz = s)
theorem Row.len {M : AM} {b0 s : Nat} {u : Value} {c : List Value} {n : Nat} (h : Row M b0 s u c n) : c.length = n * s := by
  rcases h with ⟨_, rfl, rfl⟩ | ⟨a, kd, sz, _, _, _, h, _⟩
  · simp
  · exact h
theorem Row.nil {M : AM} {b0 s : Nat} : Row M b0 s (.slice none 0 0) [] 0 := .inl ⟨rfl, rfl, rfl⟩
theorem Row.low {M : AM} {b0 b1 s : Nat} {u : Value} {c : List Value} {n : Nat} (h : Row M b0 s u c n) (hb : b1 ≤ b0) : Row M b1 s u c n := by
  rcases h with h | ⟨a, kd, sz, h1, h2⟩
  · exact .inl h
  · exact .inr ⟨a, kd, sz, by omega, h2⟩
theorem Row.old {M : AM} {b0 s : Nat} {u : Value} {c : List Value} {n : Nat} (h : Row M b0 s u c n) (T : AM) : Row (M ++ T) b0 s u c n := by
  rcases h with h | ⟨a, kd, sz, h1, h2, h3, h4⟩
  · exact .inl h
  · exact .inr ⟨a, kd, sz, h1, h2, get_old _ h3, h4⟩
theorem Row.sl {M : AM} {b0 s : Nat} {u : Value} {c : List Value} {n : Nat} (h : Row M b0 s u c n) (hM : 0 < M.length) : ∃ a, Sl u a 0 n ∧ a < M.length ∧ (0 < n → RdL M a 0 c) := by
  rcases h with ⟨rfl, rfl, rfl⟩ | ⟨a, kd, sz, h1, rfl, h3, h4, _⟩
  · exact ⟨0, .inl ⟨rfl, rfl⟩, hM, fun h => absurd h (by omega)⟩
  · exact ⟨a, Sl.mk (Nat.le_refl _), (List.getElem?_eq_some_iff.1 h3).1, fun _ => ⟨_, h3, fun j v hj => by simpa using hj⟩⟩
/-- The block is the only one that an append may take. -/
def NotOf (u : Value) (j : Nat) : Prop := ∀ n c, u ≠ .slice (some ⟨j, 0, none⟩) n c
theorem NotOf.row {M : AM} {b0 s : Nat} {u : Value} {c : List Value} {n j : Nat} (h : Row M b0 s u c n) (hj : j < b0) : NotOf u j := by
  intro n' c' e
  rcases h with ⟨h, _⟩ | ⟨a, kd, sz, h1, h2, _⟩
  · rw [e] at h; cases h
  · rw [e] at h2
    simp only [Value.slice.injEq, Option.some.injEq, Addr.mk.injEq] at h2
    omega
section
variable {P : Program} {nt : Nat} {ops : Array Oper} {t : Fm} {m : AM} {K : Fm → AM → Prop} {d T : Nat} {p : String} {af : Array Edge}
end
end Go.Proofs.Ytmomjannlnafcaa.Abs
namespace Go.Proofs.Ytmomjannlnafcaa.Abs
set_option linter.unusedSimpArgs false
set_option linter.unusedVariables false
open Go.RowKit
open Go.Proofs.Ytmomjannlnafcaa.Sim
open Go.Proofs
def crP (j : List Job) (i : Nat) : List Nat := (List.range i).filter fun i => decide ((eJ j).getD i 0 = (lJ j).getD i 0)
theorem crP_len (j : List Job) (i : Nat) : (crP j i).length ≤ i := by
  have := List.length_filter_le (fun i => decide ((eJ j).getD i 0 = (lJ j).getD i 0)) (List.range i)
  rw [List.length_range] at this
  exact this
end Go.Proofs.Ytmomjannlnafcaa.Abs
namespace Go.Proofs.Ytmomjannlnafcaa.Abs
set_option linter.unusedSimpArgs false
set_option linter.unusedVariables false
open Go.RowKit
open Go.Proofs.Ytmomjannlnafcaa.Sim
open Go.Proofs
theorem ints_old {m : AM} {v : Value} {l : List Int} (h : Ints m v l) (L : AM) : Ints (m ++ L) v l := by
  obtain ⟨a, o, h1, h2, h3⟩ := h
  exact ⟨a, o, h1, by rw [List.length_append]; omega, fun k hk => (h3 k hk).old L⟩
theorem pre_up2 {m A B : AM} (h : ∃ N, A = m ++ N) (k : ∃ N, B = A ++ N) : ∃ N, B = m ++ N := by
  obtain ⟨N, rfl⟩ := h
  obtain ⟨N', rfl⟩ := k
  exact ⟨_, List.append_assoc _ _ _⟩
theorem nv_crJ_len (j : List Job) : (nv (crJ j)).length ≤ j.length := by rw [nv_len]; exact crP_len j j.length
end Go.Proofs.Ytmomjannlnafcaa.Abs
namespace Go.Proofs.Ytmomjannlnafcaa.Abs
set_option linter.unusedSimpArgs false
set_option linter.unusedVariables false
def mxQ (f : Nat → Int) : Nat → Int
  | 0 => 0
  | q + 1 => max (mxQ f q) (f q)
theorem mxQ_0 (f : Nat → Int) : ∀ n, 0 ≤ mxQ f n
  | 0 => Int.le_refl _
  | n + 1 => by have := mxQ_0 f n; simp only [mxQ]; omega
theorem mxQ_ge {f : Nat → Int} : ∀ {n q}, q < n → f q ≤ mxQ f n
  | n + 1, q, h => by
    simp only [mxQ]
    rcases Nat.lt_succ_iff_lt_or_eq.1 h with h | rfl
    · have := mxQ_ge (f := f) h; omega
    · omega
theorem mxQ_le {f : Nat → Int} {B : Int} (hB : 0 ≤ B) : ∀ n, (∀ q, q < n → f q ≤ B) → mxQ f n ≤ B
  | 0, _ => hB
  | n + 1, h => by
    have h1 := mxQ_le hB n fun q hq => h q (by omega)
    have h2 := h n (by omega)
    simp only [mxQ]
    omega
theorem mxQ_congr {f g : Nat → Int} : ∀ n, (∀ q, q < n → f q = g q) → mxQ f n = mxQ g n
  | 0, _ => rfl
  | n + 1, h => by simp only [mxQ]; rw [mxQ_congr n fun q hq => h q (by omega), h n (by omega)]
theorem mxL_ge {row : List Int} : ∀ {n k}, k < n → row.getD k 0 ≤ mxL row n
  | n + 1, k, h => by
    simp only [mxL]
    rcases Nat.lt_succ_iff_lt_or_eq.1 h with h | rfl
    · have := mxL_ge (row := row) h; omega
    · omega
theorem mxL_wit {row : List Int} : ∀ n, mxL row n = 0 ∨ ∃ k, k < n ∧ mxL row n = row.getD k 0
  | 0 => .inl rfl
  | n + 1 => by
    simp only [mxL]
    by_cases h : mxL row n ≤ row.getD n 0
    · exact .inr ⟨n, by omega, by omega⟩
    · rcases mxL_wit (row := row) n with e | ⟨k, hk, e⟩
      · exact .inl (by omega)
      · exact .inr ⟨k, by omega, by omega⟩
/-- The longest chains of critical jobs. -/
def owR (j : List Job) (P : List Nat) : Nat → List Int
  | 0 => List.replicate j.length 0
  | q + 1 => (eaI (owR j P q) (P.getD q 0) (aft j (P.getD q 0)) (aft j (P.getD q 0)).length).set (P.getD q 0) (if ((P.getD q 0 : Nat) : Int) ∈ nv (crJ j) then (eaI (owR j P q) (P.getD q 0) (aft j (P.getD q 0)) (aft j (P.getD q 0)).length).getD (P.getD q 0) 0 + tmJ j (P.getD q 0) else 0)
theorem owR_len (j : List Job) (P : List Nat) : ∀ q, (owR j P q).length = j.length
  | 0 => by simp [owR]
  | q + 1 => by simp [owR, eaI_len, owR_len j P q]
section
variable {j : List Job} {P : List Nat}
theorem owR_bd (hJ : JOk j) (hin : ∀ q, q < P.length → P.getD q 0 < j.length) : ∀ q, q ≤ P.length → ∀ k, 0 ≤ (owR j P q).getD k 0 ∧ (owR j P q).getD k 0 ≤ 10000 * q
  | 0, _, k => by
    have : (owR j P 0).getD k 0 = 0 := by
      rw [owR]
      by_cases hk : k < j.length
      · rw [gD (by simpa using hk), List.getElem_replicate]
      · simp [hk]
    rw [this]
    omega
  | q + 1, hq, k => by
    have ih := owR_bd hJ hin q (by omega)
    have hi := hin q (by omega)
    have hnum := hJ.num _ hi
    have e : tmJ j (P.getD q 0) = (j.getD (P.getD q 0) default).time := rfl
    have h1 := eaI_bd (i := P.getD q 0) (l := aft j (P.getD q 0)) ih (aft j (P.getD q 0)).length
    have h2 := h1 (P.getD q 0)
    have h3 := h1 k
    rw [owR, getDs _ _ _ _ (by rw [eaI_len, owR_len]; exact hi), e]
    split
    · split <;> omega
    · omega
theorem owR_keep (h : Topo j P) {q : Nat} {r : Nat} (hr : r < P.length) : ∀ d, q + d ≤ P.length → (∀ s, q ≤ s → s < q + d → s ≠ r) → (owR j P (q + d)).getD (P.getD r 0) 0 = (owR j P q).getD (P.getD r 0) 0
  | 0, _, _ => rfl
  | d + 1, hd, hs => by
    have ih := owR_keep h hr d (by omega) (fun s h1 h2 => hs s h1 (by omega))
    have hne : P.getD (q + d) 0 ≠ P.getD r 0 := fun e => hs (q + d) (by omega) (by omega) (h.inj (by omega) hr e)
    rw [← ih, ← Nat.add_assoc, owR]
    rw [getDs _ _ _ _ (by rw [eaI_len, owR_len]; exact h.in_ (by omega)), if_neg hne, eaI_ne (Ne.symm hne)]
theorem owR_zero (h : Topo j P) {q : Nat} (hq : q < P.length) : (owR j P q).getD (P.getD q 0) 0 = 0 := by
  have := owR_keep h (q := 0) hq q (by omega) (fun s _ hs => by omega)
  rw [Nat.zero_add] at this
  rw [this]
  have := h.in_ hq
  rw [owR, gD (by simpa using this), List.getElem_replicate]
theorem eaR_made (h : Topo j P) {q : Nat} (hq : q < P.length) : (eaR j P (q + 1)).getD (P.getD q 0) 0 = (eaR j P P.length).getD (P.getD q 0) 0 := by
  have := eaR_keep h (q := q + 1) hq (P.length - (q + 1)) (by omega) (fun s h1 h2 => by omega)
  rw [show q + 1 + (P.length - (q + 1)) = P.length by omega] at this
  exact this.symm
end
theorem crJ_mem {j : List Job} {i : Nat} (hi : i < j.length) : ((i : Nat) : Int) ∈ nv (crJ j) ↔ (eJ j).getD i 0 = (lJ j).getD i 0 := by
  unfold nv crJ
  constructor
  · intro h
    obtain ⟨k, hk, e⟩ := List.mem_map.1 h
    have : k = i := by
      have e' : (k : Int) = (i : Int) := e
      omega
    subst this
    exact of_decide_eq_true (List.mem_filter.1 hk).2
  · intro h
    exact List.mem_map.2 ⟨i, List.mem_filter.2 ⟨List.mem_range.2 hi, decide_eq_true h⟩, rfl⟩
section
variable {j : List Job}
theorem early_le_late (hok : jobsB j = true) (hn : (sortL j).length = j.length) : ∀ i, i < j.length → (eJ j).getD i 0 ≤ (lJ j).getD i 0 := by
  have hT := sortL_topo j
  have hE : IsEarly j (fun i => (eJ j).getD i 0) := eaR_early hT hn (JOk.of hok)
  have hL : IsLate j (mxL (eJ j) j.length) (fun i => (lJ j).getD i 0) := laL_late hT hn (JOk.of hok)
  refine hT.dni hn fun q hq ih => ?_
  have hi := hT.in_ hq
  rcases hL.at_ _ hi with e | ⟨k, hk, hm, e⟩
  · have := mxL_ge (row := eJ j) hi
    exact Int.le_trans this (Int.le_of_eq e.symm)
  · obtain ⟨r, hr, rfl⟩ := hT.pos hn hk
    obtain ⟨s, hs, e'⟩ := hT.bef hr hm
    have : s = q := hT.inj (by omega) hq (by rw [e']; rfl)
    have h1 := ih r (by omega) hr
    have h2 := hE.af _ hk _ hm
    simp only [Int.toNat_natCast] at h2
    have e2 : (lJ j).getD ((sortL j).getD q 0) 0 = (lJ j).getD ((sortL j).getD r 0) 0 - tmJ j ((sortL j).getD r 0) := e
    rw [e2]
    omega
/-- A critical job's longest critical chain is its earliest end. -/
theorem owR_made (hok : jobsB j = true) (hn : (sortL j).length = j.length) : ∀ q, q < (sortL j).length → (owR j (sortL j) (q + 1)).getD ((sortL j).getD q 0) 0 = if (((sortL j).getD q 0 : Nat) : Int) ∈ nv (crJ j) then (eJ j).getD ((sortL j).getD q 0) 0 else 0 := by
  have hT := sortL_topo j
  have hE : IsEarly j (fun i => (eJ j).getD i 0) := eaR_early hT hn (JOk.of hok)
  have hL : IsLate j (mxL (eJ j) j.length) (fun i => (lJ j).getD i 0) := laL_late hT hn (JOk.of hok)
  have hEL := early_le_late hok hn
  intro q
  induction q using Nat.strongRecOn with
  | _ q ih =>
    intro hq
    have hi := hT.in_ hq
    have hz := owR_zero hT hq
    rw [owR, getDs _ _ _ _ (by rw [eaI_len, owR_len]; exact hi), if_pos rfl]
    by_cases hc : (((sortL j).getD q 0 : Nat) : Int) ∈ nv (crJ j)
    · rw [if_pos hc, if_pos hc]
      have hcr := (crJ_mem hi).1 hc
      obtain ⟨e1, e2, e3⟩ := eaI_at (row := owR j (sortL j) q) (i := (sortL j).getD q 0) (l := aft j ((sortL j).getD q 0)) (by rw [owR_len]; exact hi) _ (Nat.le_refl _)
      rw [hz] at e1 e3
      -- what stands at a job of the After
      have val : ∀ a ∈ aft j ((sortL j).getD q 0), (owR j (sortL j) q).getD a.toNat 0 = if ((a.toNat : Nat) : Int) ∈ nv (crJ j) then (eJ j).getD a.toNat 0 else 0 := fun a ha => by
        obtain ⟨r, hr, e⟩ := hT.bef hq ha
        have h1 := ih r hr (by omega)
        have h2 := owR_keep hT (q := r + 1) (r := r) (by omega) (q - (r + 1)) (by omega) (fun s q1 q2 => by omega)
        rw [show r + 1 + (q - (r + 1)) = q by omega] at h2
        rw [← e, h2, h1]
      have hlo := hE.lo _ hi
      have up : (eaI (owR j (sortL j) q) ((sortL j).getD q 0) (aft j ((sortL j).getD q 0)) (aft j ((sortL j).getD q 0)).length).getD ((sortL j).getD q 0) 0 + tmJ j ((sortL j).getD q 0) ≤ (eJ j).getD ((sortL j).getD q 0) 0 := by
        rcases e3 with e3 | ⟨s, hs, e3⟩
        · rw [e3]; simpa using hlo
        · have hm := List.getElem_mem hs
          rw [gD hs, val _ hm] at e3
          have h2 := hE.af _ hi _ hm
          rw [e3]
          split
          · exact h2
          · omega
      have low : (eJ j).getD ((sortL j).getD q 0) 0 ≤ (eaI (owR j (sortL j) q) ((sortL j).getD q 0) (aft j ((sortL j).getD q 0)) (aft j ((sortL j).getD q 0)).length).getD ((sortL j).getD q 0) 0 + tmJ j ((sortL j).getD q 0) := by
        rcases hE.at_ _ hi with e | ⟨a, ha, e⟩
        · rw [e]
          omega
        · have ha2 : a.toNat < j.length := by
            obtain ⟨r, hr, er⟩ := hT.bef hq ha
            rw [← er]
            exact hT.in_ (by omega)
          have ha0 := (JOk.of hok).mem hi ha
          have hla := hL.af _ ha2 _ hi (by rw [show ((a.toNat : Nat) : Int) = a by omega]; exact ha)
          have hel := hEL _ ha2
          have hcra : ((a.toNat : Nat) : Int) ∈ nv (crJ j) := (crJ_mem ha2).2 (by omega)
          obtain ⟨s, hs, es⟩ := List.getElem_of_mem ha
          have h2 := e2 s hs (by rw [gD hs, es]; exact hT.self hn hi ha)
          rw [gD hs, es, val a ha, if_pos hcra] at h2
          rw [e]
          omega
      omega
    · rw [if_neg hc, if_neg hc]
/-- The law: the greatest sums of all chains, of the critical chains, and the greatest earliest end are one. -/
theorem chain_law (hok : jobsB j = true) (hn : (sortL j).length = j.length) :
    mxQ (fun q => (eaR j (sortL j) (q + 1)).getD ((sortL j).getD q 0) 0) (sortL j).length = mxQ (fun q => (eJ j).getD ((sortL j).getD q 0) 0) (sortL j).length ∧
    mxQ (fun q => (owR j (sortL j) (q + 1)).getD ((sortL j).getD q 0) 0) (sortL j).length = mxQ (fun q => (eJ j).getD ((sortL j).getD q 0) 0) (sortL j).length := by
  have hT := sortL_topo j
  have hE : IsEarly j (fun i => (eJ j).getD i 0) := eaR_early hT hn (JOk.of hok)
  have hL : IsLate j (mxL (eJ j) j.length) (fun i => (lJ j).getD i 0) := laL_late hT hn (JOk.of hok)
  have hEL := early_le_late hok hn
  have hb := eJ_bd hok hn
  refine ⟨mxQ_congr _ fun q hq => eaR_made hT hq, ?_⟩
  have hw := owR_made hok hn
  have h1 : mxQ (fun q => (owR j (sortL j) (q + 1)).getD ((sortL j).getD q 0) 0) (sortL j).length ≤ mxQ (fun q => (eJ j).getD ((sortL j).getD q 0) 0) (sortL j).length := by
    refine mxQ_le (mxQ_0 _ _) _ fun q hq => ?_
    rw [hw q hq]
    split
    · exact mxQ_ge (f := fun q => (eJ j).getD ((sortL j).getD q 0) 0) hq
    · exact mxQ_0 _ _
  have h2 : mxQ (fun q => (eJ j).getD ((sortL j).getD q 0) 0) (sortL j).length ≤ mxQ (fun q => (owR j (sortL j) (q + 1)).getD ((sortL j).getD q 0) 0) (sortL j).length := by
    refine mxQ_le (mxQ_0 _ _) _ fun q hq => ?_
    have hi := hT.in_ hq
    have hge := mxL_ge (row := eJ j) hi
    rcases mxL_wit (row := eJ j) j.length with e | ⟨k, hk, e⟩
    · have := mxQ_0 (fun q => (owR j (sortL j) (q + 1)).getD ((sortL j).getD q 0) 0) (sortL j).length
      omega
    · obtain ⟨r, hr, rfl⟩ := hT.pos hn hk
      have hlk := hL.hi _ hk
      have helk := hEL _ hk
      have hc : (((sortL j).getD r 0 : Nat) : Int) ∈ nv (crJ j) := (crJ_mem hk).2 (by omega)
      have := mxQ_ge (f := fun q => (owR j (sortL j) (q + 1)).getD ((sortL j).getD q 0) 0) hr
      rw [hw r hr, if_pos hc] at this
      omega
  omega
end
end Go.Proofs.Ytmomjannlnafcaa.Abs
namespace Go.Proofs.Ytmomjannlnafcaa.Abs
set_option linter.unusedSimpArgs false
set_option linter.unusedVariables false
open Go.RowKit
open Go.Proofs.Ytmomjannlnafcaa.Sim
open Go.Proofs
theorem nat_nvP (P : List Nat) : nat (nv P) = P := by
  unfold nat nv
  rw [List.map_map]
  have : (Int.toNat ∘ (Nat.cast : Nat → Int)) = id := by funext x; simp
  rw [this, List.map_id]
theorem sort_allowed {j : List Job} (hn : (sortL j).length = j.length) : allowedB j (nv (sortL j)) = true := by
  have hT := sortL_topo j
  unfold allowedB
  rw [hT.order hn, nat_nvP, allowB_of fun q hq => hT.al q hq]
  rfl
set_option maxHeartbeats 16000000 in
set_option maxRecDepth 100000 in
theorem BenchChain_ok {m : AM} {v : Value} {j : List Job} (hj : Jobs m v j) (hs : Short j) : ACall Try.prog 10 #[v] m (Ret (.bool true) m) := by
  refine ACall.drop (.bool _) ?_
  have hM : 0 < m.length := by obtain ⟨a, o, h1, h2, h3⟩ := id hj; omega
  have haw : ∀ M, ACall Try.prog 24 #[] M (Ret (.bool true) M) := fun M => awake_ok
  have J0 : ∀ M, (∃ N, M = m ++ N) → Jobs M v j := fun M ⟨N, e⟩ => by rw [e]; exact hj.old _
  have up : ∀ {A B : AM}, (∃ N, A = m ++ N) → (∃ N, B = A ++ N) → ∃ N, B = m ++ N := pre_up2
  have hC := fun M h T => f34_ok ((J0 M h).old T) hs
  refine ACall.start Try.func10 rfl rfl ?_
  (repeat (first | (with_reducible refine AWo.cons ?_) | ((with_reducible refine Step.id ?_); first | ((with_reducible apply Step.move); exact rfl; exact rfl) | ((with_reducible apply Step.assign); exact rfl; exact rfl)) | (with_reducible refine AWo.nil ?_) | ((with_reducible apply AW.seq)) | ((with_reducible apply Then.n)) | ((with_reducible apply AW.regL))))
  rw [List.append_nil]
  have h0 : ∃ N, m = m ++ N := ⟨[], (List.append_nil m).symm⟩
  have c0 := hC m h0 []
  rw [List.append_nil] at c0
  ((with_reducible apply Step.callX fit); exact rfl; exact Try.func34; exact rfl; exact rfl; exact c0)
  rintro v1 M1 ⟨N1, hN1⟩ hJ1
  have hm1 : ∃ N, M1 = m ++ N := up h0 ⟨N1, hN1⟩
  clear hN1 c0
  by_cases he : errJ j = 0
  · obtain ⟨hok, hn⟩ := errJ_zero he
    have hJ := JOk.of hok
    have hT := sortL_topo j
    have h40 := hJ.len
    have hel := eJ_len j
    have hcl := nv_crJ_len j
    have hin : ∀ q, q < (sortL j).length → (sortL j).getD q 0 < j.length := fun q hq => hT.in_ hq
    obtain ⟨law1, law2⟩ := chain_law hok hn
    rw [conv_self hok] at hJ1
    (repeat ((with_reducible refine AWo.cons ?_)))
    ((with_reducible apply Step.callX fit); exact rfl; exact Try.func33; exact rfl; exact rfl; exact (Early_ok (hJ1.old _) hok hn))
    rintro _ M2 ⟨N2, hN2⟩ ⟨u, rfl, hu⟩
    have hm2 : ∃ N, M2 = m ++ N := up hm1 ⟨_, by rw [hN2, List.append_assoc]⟩
    clear hN2
    (repeat (first | (with_reducible refine AWo.cons ?_) | ((with_reducible refine Step.id ?_); first | ((with_reducible apply Step.move); exact rfl; exact rfl) | ((with_reducible apply Step.assign); exact rfl; exact rfl) | ((with_reducible apply Step.extract); exact rfl; exact rfl; exact rfl)) | (with_reducible refine AWo.nil ?_) | ((with_reducible apply AW.seq)) | ((with_reducible apply Then.n)) | ((with_reducible apply AW.regL))))
    ((with_reducible apply Step.callX fit); exact rfl; exact Try.func34; exact rfl; exact rfl; exact (hC M2 hm2 _))
    rintro v3 M3 ⟨N3, hN3⟩ hJ3
    have hm3 : ∃ N, M3 = m ++ N := up hm2 ⟨_, by rw [hN3, List.append_assoc]⟩
    have hu3 : Ints M3 u (eJ j) := by rw [hN3]; exact ints_old (ints_old hu _) _
    rw [conv_self hok] at hJ3
    clear hN3
    (repeat ((with_reducible refine AWo.cons ?_)))
    ((with_reducible apply Step.callX fit); exact rfl; exact Try.func38; exact rfl; exact rfl; exact (Critical_ok (hJ3.old _) hok hn))
    rintro _ M4 ⟨N4, hN4⟩ ⟨x, rfl, hx⟩
    have hm4 : ∃ N, M4 = m ++ N := up hm3 ⟨_, by rw [hN4, List.append_assoc]⟩
    have hu4 : Ints M4 u (eJ j) := by rw [hN4]; exact ints_old (ints_old hu3 _) _
    clear hN4
    (repeat (first | (with_reducible refine AWo.cons ?_) | ((with_reducible refine Step.id ?_); first | ((with_reducible apply Step.move); exact rfl; exact rfl) | ((with_reducible apply Step.assign); exact rfl; exact rfl) | ((with_reducible apply Step.extract); exact rfl; exact rfl; exact rfl)) | (with_reducible refine AWo.nil ?_) | ((with_reducible apply AW.seq)) | ((with_reducible apply Then.n)) | ((with_reducible apply AW.regL))))
    ((with_reducible apply Step.callX fit); exact rfl; exact Try.func34; exact rfl; exact rfl; exact (hC M4 hm4 _))
    rintro v5 M5 ⟨N5, hN5⟩ hJ5
    have hm5 : ∃ N, M5 = m ++ N := up hm4 ⟨_, by rw [hN5, List.append_assoc]⟩
    have hu5 : Ints M5 u (eJ j) := by rw [hN5]; exact ints_old (ints_old hu4 _) _
    have hx5 : Ints M5 x (nv (crJ j)) := by rw [hN5]; exact ints_old (ints_old hx _) _
    rw [conv_self hok] at hJ5
    clear hN5 hu hu3 hu4 hx
    obtain ⟨ua, uo, u1, u2, u3⟩ := id hu5
    rw [hel] at u1 u3
    obtain ⟨qu, cu, rfl⟩ : ∃ q c, u = .slice q j.length c := by rcases u1 with ⟨rfl, h⟩ | ⟨c, _, rfl⟩ | ⟨h, o', k, rfl⟩; exact ⟨none, 0, by rw [h]⟩; exact ⟨_, _, rfl⟩; exact ⟨_, 0, by rw [h]⟩
    have hal := fun T => Allowed_ok (((J0 M5 hm5).old (gb (iv (nv (sortL j))) 1 :: T))) (gints (k := 0) (L := gb (iv (nv (sortL j))) 1 :: T) rfl (by rw [nv_len, hn])) hJ (by rw [nv_len]; omega) (sort_allowed hn)
    have hrj := fun T => RJobs_ok ((J0 M5 hm5).old T) hs.2 hs.1 hok
    obtain ⟨ja, jo, j1, j2, j3⟩ := id (J0 M5 hm5)
    obtain ⟨qv, cv, rfl⟩ : ∃ q c, v = .slice q j.length c := by rcases j1 with ⟨rfl, h⟩ | ⟨c, _, rfl⟩ | ⟨h, o', k, rfl⟩; exact ⟨none, 0, by rw [h]⟩; exact ⟨_, _, rfl⟩; exact ⟨_, 0, by rw [h]⟩
    (repeat (first | (with_reducible refine AWo.cons ?_) | ((with_reducible refine Step.id ?_); first | ((with_reducible apply Step.gdT); exact rfl; exact rfl; (focus (rfl))) | ((with_reducible apply Step.move); exact rfl; exact rfl) | ((with_reducible apply Step.assign); exact rfl; exact rfl) | ((with_reducible apply Step.neq); exact rfl; exact rfl; exact rfl) | ((with_reducible apply Step.len); exact rfl; (focus (assumption)); (focus (decide +kernel)); exact rfl) | ((with_reducible apply Step.not); exact rfl; exact rfl) | ((with_reducible apply Step.extract); exact rfl; exact rfl; exact rfl) | ((with_reducible apply Step.pickF); exact rfl; exact rfl; exact rfl; exact rfl; (focus (rfl))) | ((with_reducible apply Step.callT fit (k := 0)); exact rfl; exact rfl; exact Try.func43; exact rfl; exact rfl; exact (Sorted_ok (hJ5.old _) hok hn); (focus (first | (simp only [List.nil_append, List.cons_append, List.set_cons_zero, List.set_cons_succ, iv_set, bv_set, iv_rep, bv_rep]; done) | (simp only [List.nil_append, List.cons_append, List.set_cons_zero, List.set_cons_succ, iv_set, bv_set, iv_rep, bv_rep]; rfl) | rfl))) | ((with_reducible apply Step.callR fit); exact rfl; exact Try.func44; exact rfl; exact rfl; exact (hrj _)) | ((with_reducible apply Step.callR fit); exact rfl; exact Try.func45; exact rfl; exact rfl; exact (hal _))) | (with_reducible refine AWo.nil ?_) | ((fail_if_success (with_reducible refine AW.atR (id := 8) ?_)); ((with_reducible apply AW.seq))) | ((with_reducible apply Then.n)) | ((with_reducible apply AW.regL)) | ((with_reducible apply AW.skip)) | ((with_reducible apply AW.condF); exact rfl; (focus (first | rfl | (simp; done))))))
    obtain ⟨M6, hM6⟩ : ∃ M6, M6 = M5 ++ [gb (iv (nv (sortL j))) 1] := ⟨_, rfl⟩
    have hm6 : ∃ N, M6 = m ++ N := up hm5 ⟨_, hM6⟩
    have hu6 : Ints M6 (.slice qu j.length cu) (eJ j) := by rw [hM6]; exact ints_old hu5 _
    have hx6 : Ints M6 x (nv (crJ j)) := by rw [hM6]; exact ints_old hx5 _
    have hrP : ∀ q, q < (sortL j).length → Rd M6 (M5.length + 0) (0 + q) (.int .i64 (((sortL j).getD q 0 : Nat) : Int)) := fun q hq => by rw [hM6]; exact gv_rd rfl q hq
    have hsP : Sl (gv (M5.length + 0) j.length) (M5.length + 0) 0 j.length := gv_sl _ _
    have hM5l : M5.length + 0 < M6.length := by rw [hM6]; simp
    rw [← hM6]
    clear hM6 u1 u2 u3 j1 j2 j3 hal hrj hu5 hx5 hJ1 hJ3 hJ5
    obtain ⟨ua, uo, u1, u2, u3⟩ := id hu6
    rw [hel] at u1 u3
    obtain ⟨xa, xo, x1, x2, x3⟩ := id hx6
    obtain ⟨ja, jo, j1, j2, j3⟩ := id (J0 M6 hm6)
    generalize hOrd : gv (M5.length + 0) j.length = ord at *
    generalize M5.length + 0 = po at *
    refine AW.rebase ?_
    refine AW.joinG (fr [(0, .slice qv j.length cv), (3, .slice qu j.length cu), (5, x), (7, ord), (9, .slice (some ⟨M6.length + 0, 0, none⟩) j.length j.length), (10, .slice (some ⟨M6.length + 1, 0, none⟩) j.length j.length)]) (M6 ++ [some { cells := iv (List.replicate j.length 0) }, some { cells := iv (List.replicate j.length 0) }]) ?_ ?_
    · (repeat' (first | ((with_reducible refine Step.id ?_); first | ((with_reducible apply Step.move); exact rfl; exact rfl) | ((with_reducible apply Step.assign); exact rfl; exact rfl) | ((with_reducible apply Step.len); exact rfl; (focus (assumption)); (focus (decide +kernel)); exact rfl) | ((with_reducible apply Step.make1 0); exact rfl; exact rfl; exact rfl; exact el23; (focus (omega)); exact rfl; (focus (first | (simp only [List.nil_append, List.cons_append, List.set_cons_zero, List.set_cons_succ, iv_set, bv_set, iv_rep, bv_rep]; done) | (simp only [List.nil_append, List.cons_append, List.set_cons_zero, List.set_cons_succ, iv_set, bv_set, iv_rep, bv_rep]; rfl) | rfl))) | ((with_reducible apply Step.make1 1); exact rfl; exact rfl; exact rfl; exact el23; (focus (omega)); exact rfl; (focus (first | (simp only [List.nil_append, List.cons_append, List.set_cons_zero, List.set_cons_succ, iv_set, bv_set, iv_rep, bv_rep]; done) | (simp only [List.nil_append, List.cons_append, List.set_cons_zero, List.set_cons_succ, iv_set, bv_set, iv_rep, bv_rep]; rfl) | rfl)))) | ((with_reducible apply Then.n)) | ((with_reducible apply AW.drawT fit (T := (.step 0 (.step 1 (.step 3 (.step 4 (.both (.step 2 (.step 6 (.step 5 (.step 7 .done)))) (.step 5 (.step 2 (.step 6 (.step 7 .done))))))))))); (focus (decide +kernel))) | ((with_reducible apply AWt.step); exact rfl) | ((with_reducible apply AWt.done)) | refine AWt.both ?_ ?_))
      all_goals first | (refine Gc.perm [0,1] rfl (by decide) ?_ (CellsOk.ren ?_) ?_; (focus (intro p hp; rcases p with _ | _ | p <;> first | rfl | exact absurd hp (lenB (n := 2) rfl))); (focus (repeat (first | exact CellsOk.nil | refine CellsOk.cons (by exact g0_iv _) ?_))); (focus ((repeat (first | exact trivial | (refine And.intro ⟨_, rfl, ?_⟩ ?_; (focus (first | (refine Ren.slice_sg ?_; (focus (first | (simp; done) | omega | (simp; omega)))) | (refine Ren.of_sl_sg (by assumption) ?_ ?_; (focus (first | (simp; done) | omega | (simp; omega))); (focus (simp; done)))))))); done))) | (refine Gc.perm [1,0] rfl (by decide) ?_ (CellsOk.ren ?_) ?_; (focus (intro p hp; rcases p with _ | _ | p <;> first | rfl | exact absurd hp (lenB (n := 2) rfl))); (focus (repeat (first | exact CellsOk.nil | refine CellsOk.cons (by exact g0_iv _) ?_))); (focus ((repeat (first | exact trivial | (refine And.intro ⟨_, rfl, ?_⟩ ?_; (focus (first | (refine Ren.slice_sg ?_; (focus (first | (simp; done) | omega | (simp; omega)))) | (refine Ren.of_sl_sg (by assumption) ?_ ?_; (focus (first | (simp; done) | omega | (simp; omega))); (focus (simp; done)))))))); done)))
    have heb := eJ_bd hok hn
    have hbe := fun q hq => eaR_bd (P := sortL j) hJ hin q hq
    have hbo := fun q hq => owR_bd (P := sortL j) hJ hin q hq
    have hle := fun q => eaR_len j (sortL j) q
    have hlo := fun q => owR_len j (sortL j) q
    have hmE : ∀ q, q ≤ (sortL j).length → 0 ≤ mxQ (fun q => (eaR j (sortL j) (q + 1)).getD ((sortL j).getD q 0) 0) q ∧ mxQ (fun q => (eaR j (sortL j) (q + 1)).getD ((sortL j).getD q 0) 0) q ≤ 1000000 := fun q hq => ⟨mxQ_0 _ _, mxQ_le (by omega) _ fun r hr => by have := hbe (r + 1) (by omega) ((sortL j).getD r 0); omega⟩
    have hmO : ∀ q, q ≤ (sortL j).length → 0 ≤ mxQ (fun q => (owR j (sortL j) (q + 1)).getD ((sortL j).getD q 0) 0) q ∧ mxQ (fun q => (owR j (sortL j) (q + 1)).getD ((sortL j).getD q 0) 0) q ≤ 1000000 := fun q hq => ⟨mxQ_0 _ _, mxQ_le (by omega) _ fun r hr => by have := hbo (r + 1) (by omega) ((sortL j).getD r 0); omega⟩
    have hmD : ∀ q, 0 ≤ mxQ (fun q => (eJ j).getD ((sortL j).getD q 0) 0) q ∧ mxQ (fun q => (eJ j).getD ((sortL j).getD q 0) 0) q ≤ 1000000 := fun q => ⟨mxQ_0 _ _, mxQ_le (by omega) _ fun r hr => by have := heb ((sortL j).getD r 0); omega⟩
    (repeat (first | (with_reducible refine AWo.cons ?_) | ((with_reducible refine Step.id ?_); first | ((with_reducible apply Step.move); exact rfl; exact rfl) | ((with_reducible apply Step.assign); exact rfl; exact rfl) | ((with_reducible apply Step.len); exact rfl; (focus (assumption)); (focus (decide +kernel)); exact rfl)) | (with_reducible refine AWo.nil ?_) | ((with_reducible apply AW.seq)) | ((with_reducible apply Then.n)) | ((with_reducible apply AW.regL)) | ((with_reducible apply AW.block))))
    refine AW.loopW (fun n' t M => ∃ q : Nat, n' = j.length - q ∧ q ≤ j.length ∧ M = M6 ++ [some { cells := iv (eaR j (sortL j) q) }, some { cells := iv (owR j (sortL j) q) }] ∧
      t = fr [(0, .slice qv j.length cv), (3, .slice qu j.length cu), (5, x), (9, .slice (some ⟨M6.length + 0, 0, none⟩) j.length j.length), (10, .slice (some ⟨M6.length + 1, 0, none⟩) j.length j.length), (11, .int .i64 (mxQ (fun q => (eaR j (sortL j) (q + 1)).getD ((sortL j).getD q 0) 0) q)), (12, .int .i64 (mxQ (fun q => (owR j (sortL j) (q + 1)).getD ((sortL j).getD q 0) 0) q)), (13, .int .i64 (mxQ (fun q => (eJ j).getD ((sortL j).getD q 0) 0) q)), (79, ord), (80, .int .i64 (j.length : Nat)), (81, .int .i64 (q : Nat))]) ⟨_, _, (by repeat (first | exact trivial | (refine And.intro rfl ?_))), 0, rfl, Nat.zero_le _, rfl, rfl⟩ ?_
    rintro n' t M ⟨q, rfl, hq, rfl, rfl⟩
    rcases Nat.lt_or_ge q j.length with hql | hge
    · have hq' : q < (sortL j).length := by omega
      have hi := hin q hq'
      have hrq := hrP q hq'
      rw [Nat.zero_add] at hrq
      have hmE1 := hmE q (by omega)
      have hmO1 := hmO q (by omega)
      have hmD1 := hmD q
      have sE : mxQ (fun q => (eaR j (sortL j) (q + 1)).getD ((sortL j).getD q 0) 0) (q + 1) = max (mxQ (fun q => (eaR j (sortL j) (q + 1)).getD ((sortL j).getD q 0) 0) q) ((eaR j (sortL j) (q + 1)).getD ((sortL j).getD q 0) 0) := rfl
      have sO : mxQ (fun q => (owR j (sortL j) (q + 1)).getD ((sortL j).getD q 0) 0) (q + 1) = max (mxQ (fun q => (owR j (sortL j) (q + 1)).getD ((sortL j).getD q 0) 0) q) ((owR j (sortL j) (q + 1)).getD ((sortL j).getD q 0) 0) := rfl
      have sD : mxQ (fun q => (eJ j).getD ((sortL j).getD q 0) 0) (q + 1) = max (mxQ (fun q => (eJ j).getD ((sortL j).getD q 0) 0) q) ((eJ j).getD ((sortL j).getD q 0) 0) := rfl
      have bE := hbe q (by omega)
      have bO := hbo q (by omega)
      have bE1 := hbe (q + 1) (by omega) ((sortL j).getD q 0)
      have bO1 := hbo (q + 1) (by omega) ((sortL j).getD q 0)
      have bD := heb ((sortL j).getD q 0)
      have lE := hle q
      have lO := hlo q
      have stE : eaR j (sortL j) (q + 1) = (eaI (eaR j (sortL j) q) ((sortL j).getD q 0) (aft j ((sortL j).getD q 0)) (aft j ((sortL j).getD q 0)).length).set ((sortL j).getD q 0) ((eaI (eaR j (sortL j) q) ((sortL j).getD q 0) (aft j ((sortL j).getD q 0)) (aft j ((sortL j).getD q 0)).length).getD ((sortL j).getD q 0) 0 + tmJ j ((sortL j).getD q 0)) := rfl
      have stO : owR j (sortL j) (q + 1) = (eaI (owR j (sortL j) q) ((sortL j).getD q 0) (aft j ((sortL j).getD q 0)) (aft j ((sortL j).getD q 0)).length).set ((sortL j).getD q 0) (if (((sortL j).getD q 0 : Nat) : Int) ∈ nv (crJ j) then (eaI (owR j (sortL j) q) ((sortL j).getD q 0) (aft j ((sortL j).getD q 0)) (aft j ((sortL j).getD q 0)).length).getD ((sortL j).getD q 0) 0 + tmJ j ((sortL j).getD q 0) else 0) := rfl
      have hud := u3 _ hi
      have hct := fun T => contains_ok (((sortL j).getD q 0 : Nat) : Int) (ints_old hx6 T) (by omega) rfl
      obtain ⟨w, hr, hw⟩ := j3 _ hi
      obtain ⟨wa, wo, w1, w2, w3⟩ := id hw
      have hnum := hJ.num _ hi
      have hlen := hJ.alen hi
      have hris := fun s hs => aft_rng hJ hi (s := s) hs
      clear hle hlo hbe hbo hmE hmO hmD heb law1 law2 hrP
      generalize mxQ (fun q => (eaR j (sortL j) (q + 1)).getD ((sortL j).getD q 0) 0) q = mE at *
      generalize mxQ (fun q => (owR j (sortL j) (q + 1)).getD ((sortL j).getD q 0) 0) q = mO at *
      generalize mxQ (fun q => (eJ j).getD ((sortL j).getD q 0) 0) q = mD at *
      simp only [aft, tmJ] at *
      generalize (sortL j).getD q 0 = i at *
      generalize j.getD i default = jb at *
      obtain ⟨t1, t2, t3, af⟩ := jb
      simp only [Job.cells] at *
      rw [stE] at sE bE1
      rw [stO] at sO bO1
      generalize eaR j (sortL j) q = rE at *
      generalize owR j (sortL j) q = rO at *
      have bIE := fun s k => eaI_bd (i := i) (l := af) bE s k
      have bIO := fun s k => eaI_bd (i := i) (l := af) bO s k
      have lIE := fun s => eaI_len rE i af s
      have lIO := fun s => eaI_len rO i af s
      (repeat (first | (with_reducible refine AWo.cons ?_) | ((with_reducible refine Step.id ?_); first | ((with_reducible apply Step.move); exact rfl; exact rfl) | ((with_reducible apply Step.assign); exact rfl; exact rfl) | ((with_reducible apply Step.load); exact rfl; (focus (decide +kernel)); exact rfl; (focus (first | exact Rd.old _ (by assumption) | exact Rd.old _ (hr.at_ 3 rfl)))) | ((with_reducible apply Step.ix1z); exact rfl; (focus (assumption)); exact rfl; (focus (decide +kernel)); exact rfl; (focus (omega))) | ((with_reducible apply Step.ix (s := 4)); exact rfl; (focus (assumption)); exact rfl; (focus (decide +kernel)); exact rfl; (focus (omega))) | ((with_reducible apply Step.field (k := 3)); exact rfl; (focus (decide +kernel)); exact rfl) | ((with_reducible apply Step.lss); exact rfl; exact rfl; exact rfl) | ((with_reducible apply Step.len); exact rfl; (focus (assumption)); (focus (decide +kernel)); exact rfl)) | (with_reducible refine AWo.nil ?_) | ((with_reducible apply AW.seq)) | ((with_reducible apply Then.n)) | ((with_reducible apply AW.regL)) | ((with_reducible apply AW.block)) | ((with_reducible apply AW.skip)) | ((with_reducible apply AW.condT); exact rfl; (focus ((simp only [decide_eq_true_eq, decide_eq_false_iff_not, Bool.not_eq_true', Bool.not_eq_false', Bool.not_true, Bool.not_false]; first | assumption | omega))))))
      refine AW.loopW (fun n' t M => ∃ s : Nat, n' = af.length - s ∧ s ≤ af.length ∧ M = M6 ++ [some { cells := iv (eaI rE i af s) }, some { cells := iv (eaI rO i af s) }] ∧
        t = fr [(0, .slice qv j.length cv), (3, .slice qu j.length cu), (5, x), (9, .slice (some ⟨M6.length + 0, 0, none⟩) j.length j.length), (10, .slice (some ⟨M6.length + 1, 0, none⟩) j.length j.length), (11, .int .i64 mE), (12, .int .i64 mO), (13, .int .i64 mD), (15, .int .i64 (i : Nat)), (79, ord), (80, .int .i64 (j.length : Nat)), (81, .int .i64 (q : Nat)), (89, w), (90, .int .i64 (af.length : Nat)), (91, .int .i64 (s : Nat))]) ⟨_, _, (by repeat (first | exact trivial | (refine And.intro rfl ?_))), 0, rfl, Nat.zero_le _, rfl, rfl⟩ ?_
      rintro n' t M ⟨s, rfl, hs, rfl, rfl⟩
      have lIEs := lIE s
      have lIOs := lIO s
      rcases Nat.lt_or_ge s af.length with hsl | hsg
      · have hrs := hris s hsl
        have hra := w3 s hsl
        have st2 : eaI rE i af (s + 1) = (eaI rE i af s).set i (max ((eaI rE i af s).getD i 0) ((eaI rE i af s).getD (af.getD s 0).toNat 0)) := rfl
        have st3 : eaI rO i af (s + 1) = (eaI rO i af s).set i (max ((eaI rO i af s).getD i 0) ((eaI rO i af s).getD (af.getD s 0).toNat 0)) := rfl
        obtain ⟨y, hy⟩ := Int.eq_ofNat_of_zero_le hrs.1
        rw [hy, Int.toNat_natCast] at st2 st3
        rw [hy] at hra
        have hyl : y < j.length := by omega
        clear sE sO sD stE stO bIE bIO lIE lIO
        generalize eaI rE i af s = rs at *
        generalize eaI rO i af s = ro at *
        (repeat (first | (with_reducible refine AWo.cons ?_) | ((with_reducible refine Step.id ?_); first | ((with_reducible apply Step.move); exact rfl; exact rfl) | ((with_reducible apply Step.assign); exact rfl; exact rfl) | ((with_reducible apply Step.load); exact rfl; (focus (decide +kernel)); exact rfl; (focus (first | exact Rd.new rfl (iv_get (by first | omega | (simp; omega))) | exact Rd.old _ (by assumption)))) | ((with_reducible apply Step.ix1z); exact rfl; (focus (exact Sl.mk (by omega))); exact rfl; (focus (decide +kernel)); exact rfl; (focus (omega))) | ((with_reducible apply Step.ix1); exact rfl; (focus (assumption)); exact rfl; (focus (decide +kernel)); exact rfl; (focus (omega))) | ((with_reducible apply Step.add); exact rfl; exact rfl; (focus (omega)); exact rfl) | ((with_reducible apply Step.lss); exact rfl; exact rfl; exact rfl) | ((with_reducible apply Step.max); exact rfl; exact rfl; exact rfl) | ((with_reducible apply Step.store (k := 0)); exact rfl; exact rfl; exact rfl; exact rfl; (focus (decide +kernel)); exact rfl; exact rfl; (focus (first | omega | (simp [iv, bv]; done) | (simp [iv, bv]; omega))); (focus (first | (simp only [List.nil_append, List.cons_append, List.set_cons_zero, List.set_cons_succ, iv_set, bv_set, iv_rep, bv_rep]; done) | (simp only [List.nil_append, List.cons_append, List.set_cons_zero, List.set_cons_succ, iv_set, bv_set, iv_rep, bv_rep]; rfl) | rfl))) | ((with_reducible apply Step.store (k := 1)); exact rfl; exact rfl; exact rfl; exact rfl; (focus (decide +kernel)); exact rfl; exact rfl; (focus (first | omega | (simp [iv, bv]; done) | (simp [iv, bv]; omega))); (focus (first | (simp only [List.nil_append, List.cons_append, List.set_cons_zero, List.set_cons_succ, iv_set, bv_set, iv_rep, bv_rep]; done) | (simp only [List.nil_append, List.cons_append, List.set_cons_zero, List.set_cons_succ, iv_set, bv_set, iv_rep, bv_rep]; rfl) | rfl)))) | (with_reducible refine AWo.nil ?_) | ((with_reducible apply AW.seq)) | ((with_reducible apply Then.n)) | ((with_reducible apply AW.regL)) | ((with_reducible apply AW.block)) | ((with_reducible apply AW.drawL fit); (focus (decide +kernel))) | ((with_reducible apply InBlk.n)) | ((with_reducible apply AW.skip)) | ((with_reducible apply AW.condT); exact rfl; (focus ((simp only [decide_eq_true_eq, decide_eq_false_iff_not, Bool.not_eq_true', Bool.not_eq_false', Bool.not_true, Bool.not_false]; first | assumption | omega))))))
        exact ⟨_, [(0, .slice qv j.length cv), (3, .slice qu j.length cu), (5, x), (9, .slice (some ⟨M6.length + 0, 0, none⟩) j.length j.length), (10, .slice (some ⟨M6.length + 1, 0, none⟩) j.length j.length), (11, .int .i64 mE), (12, .int .i64 mO), (13, .int .i64 mD), (15, .int .i64 (i : Nat)), (79, ord), (80, .int .i64 (j.length : Nat)), (81, .int .i64 (q : Nat)), (89, w), (90, .int .i64 (af.length : Nat)), (91, .int .i64 ((s + 1 : Nat) : Int))], by omega, (by repeat (first | exact trivial | (refine And.intro rfl ?_))), s + 1, rfl, by omega, by rw [st2, st3], rfl⟩
      · obtain rfl : s = af.length := by omega
        have b1 := bIE af.length i
        have b2 := bIO af.length i
        clear bIE bIO lIE lIO
        generalize eaI rE i af af.length = rs at *
        generalize eaI rO i af af.length = ro at *
        by_cases hcr : (i : Int) ∈ nv (crJ j)
        · rw [if_pos hcr] at stO sO bO1
          have hct := fun T => contains_ok (b := true) ((i : Nat) : Int) (ints_old hx6 T) (by omega) (decide_eq_true hcr)
          (repeat (first | (with_reducible refine AWo.cons ?_) | ((with_reducible refine Step.id ?_); first | ((with_reducible apply Step.move); exact rfl; exact rfl) | ((with_reducible apply Step.assign); exact rfl; exact rfl) | ((with_reducible apply Step.load); exact rfl; (focus (decide +kernel)); exact rfl; (focus (first | exact Rd.new rfl (iv_get (by first | omega | (simp; omega))) | exact Rd.old _ (by assumption) | exact Rd.old _ (hr.at_ 0 rfl)))) | ((with_reducible apply Step.ix1z); exact rfl; (focus (exact Sl.mk (by omega))); exact rfl; (focus (decide +kernel)); exact rfl; (focus (omega))) | ((with_reducible apply Step.ix1); exact rfl; (focus (assumption)); exact rfl; (focus (decide +kernel)); exact rfl; (focus (omega))) | ((with_reducible apply Step.ix (s := 4)); exact rfl; (focus (assumption)); exact rfl; (focus (decide +kernel)); exact rfl; (focus (omega))) | ((with_reducible apply Step.field0); exact rfl; (focus (decide +kernel)); exact rfl) | ((with_reducible apply Step.add); exact rfl; exact rfl; (focus (omega)); exact rfl) | ((with_reducible apply Step.lss); exact rfl; exact rfl; exact rfl) | ((with_reducible apply Step.max); exact rfl; exact rfl; exact rfl) | ((with_reducible apply Step.callR fit); exact rfl; exact Try.func46; exact rfl; exact rfl; exact (hct _)) | ((with_reducible apply Step.store (k := 0)); exact rfl; exact rfl; exact rfl; exact rfl; (focus (decide +kernel)); exact rfl; exact rfl; (focus (first | omega | (simp [iv, bv]; done) | (simp [iv, bv]; omega))); (focus (first | (simp only [List.nil_append, List.cons_append, List.set_cons_zero, List.set_cons_succ, iv_set, bv_set, iv_rep, bv_rep]; done) | (simp only [List.nil_append, List.cons_append, List.set_cons_zero, List.set_cons_succ, iv_set, bv_set, iv_rep, bv_rep]; rfl) | rfl))) | ((with_reducible apply Step.store (k := 1)); exact rfl; exact rfl; exact rfl; exact rfl; (focus (decide +kernel)); exact rfl; exact rfl; (focus (first | omega | (simp [iv, bv]; done) | (simp [iv, bv]; omega))); (focus (first | (simp only [List.nil_append, List.cons_append, List.set_cons_zero, List.set_cons_succ, iv_set, bv_set, iv_rep, bv_rep]; done) | (simp only [List.nil_append, List.cons_append, List.set_cons_zero, List.set_cons_succ, iv_set, bv_set, iv_rep, bv_rep]; rfl) | rfl)))) | (with_reducible refine AWo.nil ?_) | ((with_reducible apply AW.seq)) | ((with_reducible apply Then.n)) | ((with_reducible apply AW.regL)) | ((with_reducible apply AW.drawL fit); (focus (decide +kernel))) | ((with_reducible apply AW.exit)) | ((with_reducible apply InBlk.n)) | ((with_reducible apply InBlk.hit)) | ((with_reducible apply Then.e)) | ((with_reducible apply AW.condT); exact rfl; (focus (rfl))) | ((with_reducible apply AW.condF); exact rfl; (focus ((simp only [decide_eq_true_eq, decide_eq_false_iff_not, Bool.not_eq_true', Bool.not_eq_false', Bool.not_true, Bool.not_false]; first | assumption | omega))))))
          exact ⟨_, [(0, .slice qv j.length cv), (3, .slice qu j.length cu), (5, x), (9, .slice (some ⟨M6.length + 0, 0, none⟩) j.length j.length), (10, .slice (some ⟨M6.length + 1, 0, none⟩) j.length j.length), (11, .int .i64 (max mE ((rs.set i (rs.getD i 0 + t1)).getD i 0))), (12, .int .i64 (max mO ((ro.set i (ro.getD i 0 + t1)).getD i 0))), (13, .int .i64 (max mD ((eJ j).getD i 0))), (79, ord), (80, .int .i64 (j.length : Nat)), (81, .int .i64 ((q + 1 : Nat) : Int))], by omega, (by repeat (first | exact trivial | (refine And.intro rfl ?_))), q + 1, rfl, by omega, by rw [stE, stO], by rw [sE, sO, sD]⟩
        · rw [if_neg hcr] at stO sO bO1
          have hct := fun T => contains_ok (b := false) ((i : Nat) : Int) (ints_old hx6 T) (by omega) (decide_eq_false hcr)
          (repeat (first | (with_reducible refine AWo.cons ?_) | ((with_reducible refine Step.id ?_); first | ((with_reducible apply Step.move); exact rfl; exact rfl) | ((with_reducible apply Step.assign); exact rfl; exact rfl) | ((with_reducible apply Step.load); exact rfl; (focus (decide +kernel)); exact rfl; (focus (first | exact Rd.new rfl (iv_get (by first | omega | (simp; omega))) | exact Rd.old _ (by assumption) | exact Rd.old _ (hr.at_ 0 rfl)))) | ((with_reducible apply Step.ix1z); exact rfl; (focus (exact Sl.mk (by omega))); exact rfl; (focus (decide +kernel)); exact rfl; (focus (omega))) | ((with_reducible apply Step.ix1); exact rfl; (focus (assumption)); exact rfl; (focus (decide +kernel)); exact rfl; (focus (omega))) | ((with_reducible apply Step.ix (s := 4)); exact rfl; (focus (assumption)); exact rfl; (focus (decide +kernel)); exact rfl; (focus (omega))) | ((with_reducible apply Step.field0); exact rfl; (focus (decide +kernel)); exact rfl) | ((with_reducible apply Step.add); exact rfl; exact rfl; (focus (omega)); exact rfl) | ((with_reducible apply Step.lss); exact rfl; exact rfl; exact rfl) | ((with_reducible apply Step.max); exact rfl; exact rfl; exact rfl) | ((with_reducible apply Step.callR fit); exact rfl; exact Try.func46; exact rfl; exact rfl; exact (hct _)) | ((with_reducible apply Step.store (k := 0)); exact rfl; exact rfl; exact rfl; exact rfl; (focus (decide +kernel)); exact rfl; exact rfl; (focus (first | omega | (simp [iv, bv]; done) | (simp [iv, bv]; omega))); (focus (first | (simp only [List.nil_append, List.cons_append, List.set_cons_zero, List.set_cons_succ, iv_set, bv_set, iv_rep, bv_rep]; done) | (simp only [List.nil_append, List.cons_append, List.set_cons_zero, List.set_cons_succ, iv_set, bv_set, iv_rep, bv_rep]; rfl) | rfl))) | ((with_reducible apply Step.store (k := 1)); exact rfl; exact rfl; exact rfl; exact rfl; (focus (decide +kernel)); exact rfl; exact rfl; (focus (first | omega | (simp [iv, bv]; done) | (simp [iv, bv]; omega))); (focus (first | (simp only [List.nil_append, List.cons_append, List.set_cons_zero, List.set_cons_succ, iv_set, bv_set, iv_rep, bv_rep]; done) | (simp only [List.nil_append, List.cons_append, List.set_cons_zero, List.set_cons_succ, iv_set, bv_set, iv_rep, bv_rep]; rfl) | rfl)))) | (with_reducible refine AWo.nil ?_) | ((with_reducible apply AW.seq)) | ((with_reducible apply Then.n)) | ((with_reducible apply AW.regL)) | ((with_reducible apply AW.drawL fit); (focus (decide +kernel))) | ((with_reducible apply AW.exit)) | ((with_reducible apply InBlk.n)) | ((with_reducible apply InBlk.hit)) | ((with_reducible apply Then.e)) | ((with_reducible apply AW.condF); exact rfl; (focus (first | rfl | (simp only [decide_eq_true_eq, decide_eq_false_iff_not, Bool.not_eq_true', Bool.not_eq_false', Bool.not_true, Bool.not_false]; first | assumption | omega))))))
          exact ⟨_, [(0, .slice qv j.length cv), (3, .slice qu j.length cu), (5, x), (9, .slice (some ⟨M6.length + 0, 0, none⟩) j.length j.length), (10, .slice (some ⟨M6.length + 1, 0, none⟩) j.length j.length), (11, .int .i64 (max mE ((rs.set i (rs.getD i 0 + t1)).getD i 0))), (12, .int .i64 (max mO ((ro.set i 0).getD i 0))), (13, .int .i64 (max mD ((eJ j).getD i 0))), (79, ord), (80, .int .i64 (j.length : Nat)), (81, .int .i64 ((q + 1 : Nat) : Int))], by omega, (by repeat (first | exact trivial | (refine And.intro rfl ?_))), q + 1, rfl, by omega, by rw [stE, stO], by rw [sE, sO, sD]⟩
    · obtain rfl : q = j.length := by omega
      rw [← hn, law1, law2]
      generalize mxQ (fun q => (eJ j).getD ((sortL j).getD q 0) 0) (sortL j).length = mm
      rw [hn]
      (repeat (first | (with_reducible refine AWo.cons ?_) | ((with_reducible refine Step.id ?_); first | ((with_reducible apply Step.gdT); exact rfl; exact rfl; (focus ((simp; done)))) | ((with_reducible apply Step.move); exact rfl; exact rfl) | ((with_reducible apply Step.assign); exact rfl; exact rfl) | ((with_reducible apply Step.lss); exact rfl; exact rfl; exact rfl) | ((with_reducible apply Step.eql); exact rfl; exact rfl; exact rfl) | ((with_reducible apply Step.pickT); exact rfl; exact rfl; exact rfl; exact rfl; (focus ((simp; done)))) | ((with_reducible apply Step.callR fit); exact rfl; exact Try.func24; exact rfl; exact rfl; exact (haw _))) | (with_reducible refine AWo.nil ?_) | ((with_reducible apply AW.seq)) | ((with_reducible apply Then.n)) | ((with_reducible apply AW.regL)) | ((with_reducible apply AW.exit)) | ((with_reducible apply InBlk.hit)) | ((with_reducible apply Then.e)) | ((with_reducible apply AW.condF); exact rfl; (focus ((simp only [decide_eq_true_eq, decide_eq_false_iff_not, Bool.not_eq_true', Bool.not_eq_false', Bool.not_true, Bool.not_false]; first | assumption | omega))))))
      (refine AW.ret ?_; (repeat (first | refine Then.r ?_ | refine InBlk.r ?_)))
      obtain ⟨N, hN⟩ := hm6
      exact ⟨_, rfl, by simp, _, by rw [hN, List.append_assoc]⟩
  · obtain ⟨e, hee⟩ : ∃ e, errJ j = e := ⟨_, rfl⟩
    rw [hee] at he
    (repeat (first | (with_reducible refine AWo.cons ?_) | ((with_reducible refine Step.id ?_); first | ((with_reducible apply Step.move); exact rfl; exact rfl) | ((with_reducible apply Step.assign); exact rfl; exact rfl) | ((with_reducible apply Step.extract); exact rfl; exact rfl; exact rfl) | ((with_reducible apply Step.callR fit); exact rfl; exact Try.func33; exact rfl; exact rfl; exact (Early_no (checked_no (hJ1.old _) hee he) he))) | (with_reducible refine AWo.nil ?_) | ((with_reducible apply AW.seq)) | ((with_reducible apply Then.n)) | ((with_reducible apply AW.regL))))
    ((with_reducible apply Step.callX fit); exact rfl; exact Try.func34; exact rfl; exact rfl; exact (hC M1 hm1 _))
    rintro v4 M4 ⟨N4, hN4⟩ hJ4
    have hm4 : ∃ N, M4 = m ++ N := up hm1 ⟨_, by rw [hN4, List.append_assoc]⟩
    clear hN4
    (repeat (first | (with_reducible refine AWo.cons ?_) | ((with_reducible refine Step.id ?_); first | ((with_reducible apply Step.move); exact rfl; exact rfl) | ((with_reducible apply Step.assign); exact rfl; exact rfl) | ((with_reducible apply Step.extract); exact rfl; exact rfl; exact rfl) | ((with_reducible apply Step.callR fit); exact rfl; exact Try.func38; exact rfl; exact rfl; exact (Critical_no (checked_no (hJ4.old _) hee he) he))) | (with_reducible refine AWo.nil ?_) | ((with_reducible apply AW.seq)) | ((with_reducible apply Then.n)) | ((with_reducible apply AW.regL))))
    ((with_reducible apply Step.callX fit); exact rfl; exact Try.func34; exact rfl; exact rfl; exact (hC M4 hm4 _))
    rintro v7 M7 ⟨N7, hN7⟩ hJ7
    have hm7 : ∃ N, M7 = m ++ N := up hm4 ⟨_, by rw [hN7, List.append_assoc]⟩
    clear hN7
    (repeat (first | (with_reducible refine AWo.cons ?_) | ((with_reducible refine Step.id ?_); first | ((with_reducible apply Step.gdT); exact rfl; exact rfl; (focus ((simp; done)))) | ((with_reducible apply Step.gdF); exact rfl; exact rfl; (focus (first | rfl | (simp only [decide_eq_true_eq, decide_eq_false_iff_not, Bool.not_eq_true', Bool.not_eq_false', Bool.not_true, Bool.not_false]; first | assumption | omega)))) | ((with_reducible apply Step.move); exact rfl; exact rfl) | ((with_reducible apply Step.assign); exact rfl; exact rfl) | ((with_reducible apply Step.eql); exact rfl; exact rfl; exact rfl) | ((with_reducible apply Step.neq); exact rfl; exact rfl; exact rfl) | ((with_reducible apply Step.extract); exact rfl; exact rfl; exact rfl) | ((with_reducible apply Step.pickT); exact rfl; exact rfl; exact rfl; exact rfl; (focus (first | rfl | (simp only [decide_eq_true_eq, decide_eq_false_iff_not, Bool.not_eq_true', Bool.not_eq_false', Bool.not_true, Bool.not_false]; first | assumption | omega) | (simp; done)))) | ((with_reducible apply Step.callR fit); exact rfl; exact Try.func43; exact rfl; exact rfl; exact (Sorted_no (checked_no (hJ7.old _) hee he))) | ((with_reducible apply Step.callR fit); exact rfl; exact Try.func24; exact rfl; exact rfl; exact (haw _))) | (with_reducible refine AWo.nil ?_) | ((with_reducible apply AW.seq)) | ((with_reducible apply Then.n)) | ((with_reducible apply AW.regL)) | ((with_reducible apply AW.condT); exact rfl; (focus (rfl)))))
    (refine AW.ret ?_; (repeat (first | refine Then.r ?_ | refine InBlk.r ?_)))
    obtain ⟨N, hN⟩ := hm7
    exact ⟨_, rfl, by simp, _, by rw [hN, List.append_assoc]⟩
end Go.Proofs.Ytmomjannlnafcaa.Abs
namespace Go.Proofs.Ytmomjannlnafcaa.Abs
set_option linter.unusedSimpArgs false
set_option linter.unusedVariables false
open Go.RowKit
open Go.Proofs.Ytmomjannlnafcaa.Sim
open Go.ChangeShapes Go.WideShapes Go.Deep
def plN (bs : List AR) : Pl := fun i => (bs[i]?).bind mkP
def mkV2 (i : Nat) : Value → Value
  | .slice (some ⟨_, _, some k⟩) _ _ => .slice (some ⟨i, 0, some k⟩) 0 0
  | .slice (some ⟨_, _, none⟩) n _ => .slice (some ⟨i, 0, none⟩) n n
  | v => v
def mkB2 : AR → Option Blk
  | (.slice (some _) _ (_ + 1), c) => some { cells := c, kind := .ro }
  | _ => none
/-- A slice of the input, with its cells as the abstract memory has them; or what is no block. -/
def OkB (W : World) (R : Pl) (a : AR) : Prop := g0 a.1 = true ∨ (∃ x, a.1 = .slice (some x) 0 0) ∨
  ∃ b o n cap, a.1 = .slice (some ⟨b, o, none⟩) n (cap + 1) ∧ n ≤ cap + 1 ∧ b < W.heap.size ∧ ∀ j x, a.2[j]? = some x → ∃ x', W.cell? ⟨b, o + j, none⟩ = some x' ∧ Rel R x x'
theorem relN {W : World} {R : Pl} {bs : List AR} {i : Nat} {a : AR} (hi : bs[i]? = some a) (h : OkB W R a) : Rel (plN bs) (mkV2 i a.1) a.1 := by
  obtain ⟨v, c⟩ := a
  rcases h with h1 | ⟨⟨b, o, sp⟩, h1⟩ | ⟨b, o, n, cap, h1, h2, h3, h4⟩
  · simp only at h1 ⊢
    cases v with
    | slice x n cap => cases x with
      | none => exact g0_rel h1
      | some x => simp [g0] at h1
    | _ => exact g0_rel h1
  · simp only at h1 ⊢
    subst h1
    cases sp with
    | none =>
      have := Rel.slice (R := plN bs) i 0 0 0 ⟨b, o, 0 - 0⟩ (by simp [plN, hi, mkP]) (Nat.le_refl _)
      simpa [mkV2] using this
    | some k =>
      have := Rel.sliceSpot (R := plN bs) i 0 k ⟨b, o, 0 - 0⟩ (by simp [plN, hi, mkP])
      simpa [mkV2] using this
  · simp only at h1 ⊢
    subst h1
    have := Rel.slice (R := plN bs) i 0 n n ⟨b, o, cap + 1 - n⟩ (by simp [plN, hi, mkP]) (Nat.le_refl _)
    rw [show n + (cap + 1 - n) = cap + 1 by omega] at this
    simpa [mkV2] using this
def mkVs2 : Nat → List AR → List Value
  | _, [] => []
  | i, a :: l => mkV2 i a.1 :: mkVs2 (i + 1) l
theorem mkVs2_get : ∀ (l : List AR) (i k : Nat), (mkVs2 i l)[k]? = (l[k]?).map fun a => mkV2 (i + k) a.1
  | [], i, k => by simp [mkVs2]
  | a :: l, i, 0 => by simp [mkVs2]
  | a :: l, i, k + 1 => by simp only [mkVs2, List.getElem?_cons_succ, mkVs2_get l (i + 1) k]; congr 1; funext x; congr 1; omega
theorem mkVs2_len : ∀ (l : List AR) (i : Nat), (mkVs2 i l).length = l.length
  | [], _ => rfl
  | a :: l, i => by simp [mkVs2, mkVs2_len l (i + 1)]
theorem mkB2_none {W : World} {R : Pl} {a : AR} {b : Blk} (h : OkB W R a) (hb : mkB2 a = some b) : ∃ bb o n cap, a.1 = .slice (some ⟨bb, o, none⟩) n (cap + 1) ∧ b = { cells := a.2, kind := .ro } ∧ bb < W.heap.size ∧ ∀ j x, a.2[j]? = some x → ∃ x', W.cell? ⟨bb, o + j, none⟩ = some x' ∧ Rel R x x' := by
  obtain ⟨v, c⟩ := a
  rcases h with h1 | ⟨x, h1⟩ | ⟨bb, o, n, cap, h1, h2, h3, h4⟩
  · simp only at h1
    cases v with
    | slice x n cap => cases x with
      | none => simp [mkB2] at hb
      | some x => simp [g0] at h1
    | _ => simp [mkB2] at hb
  · simp only at h1
    subst h1
    simp [mkB2] at hb
  · simp only at h1
    subst h1
    simp only [mkB2, Option.some.injEq] at hb
    exact ⟨bb, o, n, cap, rfl, hb.symm, h3, h4⟩
theorem top_callN {P : Program} {f : FuncId} {W : World} (bs : List AR) (na : Nat) (h : ∀ a ∈ bs, OkB W (plN bs) a) (hc : ACall P f ((mkVs2 0 bs).take na).toArray (bs.map mkB2) (Ret (.bool true) (bs.map mkB2))) :
    Calls P f ((bs.take na).map (·.1)).toArray W fun e w' => e = .returned (.bool true) ∧ Below W.heap.size W w' := by
  have hm : MRep W.heap.size (plN bs) (bs.map mkB2) W := by
    refine ⟨fun i hi => ?_, fun i b hi => ?_, fun i j b c p q hi hj hb _ _ _ _ => ?_⟩
    · simp only [List.length_map] at hi
      simp [plN, List.getElem?_eq_none hi]
    · rw [List.getElem?_map] at hi
      cases ha : bs[i]? with
      | none => rw [ha] at hi; cases hi
      | some a =>
        rw [ha] at hi
        simp only [Option.map_some, Option.some.injEq] at hi
        obtain ⟨bb, o, n, cap, h1, rfl, h3, h4⟩ := mkB2_none (h _ (List.mem_of_getElem? ha)) hi
        obtain ⟨v, c⟩ := a
        simp only at h1 h4
        subst h1
        refine ⟨⟨bb, o, cap + 1 - n⟩, by simp [plN, ha, mkP], h3, ?_⟩
        exact ⟨fun e => by simp at e, fun j x hj => h4 j x hj⟩
    · rw [List.getElem?_map] at hi
      cases ha : bs[i]? with
      | none => rw [ha] at hi; cases hi
      | some a =>
        rw [ha] at hi
        simp only [Option.map_some, Option.some.injEq] at hi
        obtain ⟨bb, o, n, cap, h1, rfl, _⟩ := mkB2_none (h _ (List.mem_of_getElem? ha)) hi
        cases hb
  have hargs : Rels (plN bs) ((mkVs2 0 bs).take na).toArray ((bs.take na).map (·.1)).toArray := by
    refine ⟨by simp [mkVs2_len], fun i hi => ?_⟩
    simp only [List.size_toArray, List.length_take, mkVs2_len] at hi
    have hib : i < bs.length := by omega
    have ha : bs[i]? = some bs[i] := List.getElem?_eq_getElem hib
    have e1 : ((mkVs2 0 bs).take na).toArray.getD i undef = mkV2 i bs[i].1 := by
      simp [mkVs2_get, ha, List.getElem?_take, show i < na by omega]
    have e2 : ((bs.take na).map (·.1)).toArray.getD i undef = bs[i].1 := by simp [List.getElem?_take, show i < na by omega, ha]
    rw [e1, e2]
    exact relN ha (h _ (List.mem_of_getElem? ha))
  refine (hc W.heap.size (plN bs) W _ (Nat.le_refl _) hm hargs).mono ?_
  rintro e w' ⟨v, v', R', m', rfl, k1, k2, rfl, rfl⟩
  cases k1
  exact ⟨rfl, k2.below hm (Nat.le_refl _)⟩
section
variable {H : Type} {enc : TypeId × Value → H} {P : Program} {w : World} {base : Nat} {held : Bool}
theorem cell_some {a : Addr} {v : Value} (h : w.cell? a = some v) : a.spot = none ∧ a.block < w.heap.size := by
  unfold World.cell? at h
  cases hb : w.heap[a.block]? with
  | none => rw [hb] at h; cases h
  | some o =>
    refine ⟨?_, (Array.getElem?_eq_some_iff.1 hb).1⟩
    rw [hb] at h
    cases o with
    | cells c ty fz =>
      simp only at h
      split at h
      · cases h
      · rename_i hs
        cases hsp : a.spot with
        | none => rfl
        | some k => rw [hsp] at hs; simp at hs
    | _ => cases h
/-- A slice of ints that the input shows, wherever it stands. -/
theorem ints_sl {T e : TypeId} {fuel : Nat} {v : Value} {d : DataW H × List MemPlace} (ht : P.underlying T = some (.slice e)) (he : P.underlying e = some (.int .i64)) (hce : P.cellsOf e = 1) (h : DataW.trod enc P w base (fun _ => true) held fuel T [v] = some d) :
    ∃ l : List Int, l.length ≤ maxLen ∧ (∀ R, OkB w R (v, iv l)) ∧ ∀ (bs : List AR) (i : Nat), bs[i]? = some (v, iv l) → Ints (bs.map mkB2) (mkV2 i v) l := by
  rcases open_ints ht he hce h with ⟨hcs, _⟩ | ⟨x, n, c, zs, hcs, _, hl, hm, hz, _, hcell, _⟩
  · obtain rfl : v = .slice none 0 0 := by simpa using hcs
    refine ⟨[], Nat.zero_le _, fun R => .inl rfl, fun bs i hi => ⟨i, 0, .inl ⟨rfl, rfl⟩, by simp; exact (List.getElem?_eq_some_iff.1 hi).1, fun k hk => by simp at hk⟩⟩
  · obtain rfl : v = .slice (some x) n c := by simpa using hcs
    rw [if_pos rfl] at hz
    have hlen : (zs.take n).length = n := by simp; omega
    cases c with
    | zero =>
      obtain rfl : n = 0 := by omega
      have e0 : zs.take 0 = [] := by simp
      refine ⟨[], Nat.zero_le _, fun R => .inr (.inl ⟨x, rfl⟩), fun bs i hi => ?_⟩
      have hlt : i < (bs.map mkB2).length := by simp; exact (List.getElem?_eq_some_iff.1 hi).1
      obtain ⟨b, o, sp⟩ := x
      cases sp with
      | none => exact ⟨i, 0, Sl.mk (Nat.le_refl _), hlt, fun k hk => by simp at hk⟩
      | some k => exact ⟨i, 0, .inr (.inr ⟨rfl, 0, k, rfl⟩), hlt, fun k hk => by simp at hk⟩
    | succ c =>
      obtain ⟨b, o, sp⟩ := x
      have h0 := cell_some (hcell 0 (by omega))
      obtain rfl : sp = none := h0.1
      have hb : b < w.heap.size := h0.2
      refine ⟨zs.take n, by omega, fun R => .inr (.inr ⟨b, o, n, c, rfl, hl, hb, fun j x hj => ?_⟩), fun bs i hi => ?_⟩
      · simp only [iv, List.getElem?_map] at hj
        by_cases hjn : j < n
        · rw [List.getElem?_take, if_pos hjn, List.getElem?_eq_getElem (by omega)] at hj
          simp only [Option.map_some, Option.some.injEq] at hj
          have := hcell j (by omega)
          rw [Addr.add_lit] at this
          refine ⟨_, this, ?_⟩
          rw [← hj]
          simp only [List.getD_eq_getElem?_getD, List.getElem?_eq_getElem (show j < zs.length by omega), Option.getD_some]
          exact .int _ _
        · rw [List.getElem?_take, if_neg hjn] at hj
          cases hj
      · have hM : (bs.map mkB2)[i]? = some (some { cells := iv (zs.take n), kind := .ro }) := by rw [List.getElem?_map, hi]; rfl
        exact ints_at hM rfl n hlen.symm
end
end Go.Proofs.Ytmomjannlnafcaa.Abs
namespace Go.Proofs.Ytmomjannlnafcaa.Abs
set_option linter.unusedSimpArgs false
set_option linter.unusedVariables false
open Go.RowKit
open Go.Proofs.Ytmomjannlnafcaa.Sim
open Go.Proofs
open Go.ChangeShapes Go.WideShapes Go.Deep
/-- The cells of n jobs; the After of job k lies in block e0 + k. -/
def jobCs (F : Nat → Job) (s : Nat → Value) (e0 n : Nat) : List Value := (List.range n).flatMap fun k => (F k).cells (mkV2 (e0 + k) (s k))
theorem jobCs_succ (F : Nat → Job) (s : Nat → Value) (e0 n : Nat) : jobCs F s e0 (n + 1) = jobCs F s e0 n ++ (F n).cells (mkV2 (e0 + n) (s n)) := by
  simp [jobCs, List.range_succ, List.flatMap_append]
theorem jobCs_len (F : Nat → Job) (s : Nat → Value) (e0 : Nat) : ∀ n, (jobCs F s e0 n).length = n * 4
  | 0 => rfl
  | n + 1 => by rw [jobCs_succ, List.length_append, jobCs_len F s e0 n]; simp [Job.cells]; omega
theorem jobCs_get (F : Nat → Job) (s : Nat → Value) (e0 : Nat) : ∀ n k, k < n → ∀ q v, ((F k).cells (mkV2 (e0 + k) (s k)))[q]? = some v → (jobCs F s e0 n)[k * 4 + q]? = some v
  | 0, k, h, _, _, _ => by omega
  | n + 1, k, h, q, v, hq => by
    have hq4 : q < 4 := by have := (List.getElem?_eq_some_iff.1 hq).1; simpa [Job.cells] using this
    rw [jobCs_succ]
    rcases Nat.lt_succ_iff_lt_or_eq.1 h with h' | h'
    · rw [List.getElem?_append_left (by rw [jobCs_len]; omega)]
      exact jobCs_get F s e0 n k h' q v hq
    · subst h'
      rw [List.getElem?_append_right (by rw [jobCs_len]; omega), jobCs_len, Nat.add_sub_cancel_left]
      exact hq
theorem cells4 (x : Job) (w : Value) (q : Nat) (v : Value) (h : (x.cells w)[q]? = some v) : q = 0 ∧ v = .int .i64 x.time ∨ q = 1 ∧ v = .int .i64 x.due ∨ q = 2 ∧ v = .int .i64 x.weight ∨ q = 3 ∧ v = w := by
  match q, h with
  | 0, h => simp [Job.cells] at h; exact .inl ⟨rfl, h.symm⟩
  | 1, h => simp [Job.cells] at h; exact .inr (.inl ⟨rfl, h.symm⟩)
  | 2, h => simp [Job.cells] at h; exact .inr (.inr (.inl ⟨rfl, h.symm⟩))
  | 3, h => simp [Job.cells] at h; exact .inr (.inr (.inr ⟨rfl, h.symm⟩))
  | q + 4, h => simp [Job.cells] at h
section
variable {H : Type} {enc : TypeId × Value → H} {P : Program} {w : World} {base : Nat} {held : Bool}
theorem arg_jobs {r : Reach} {b0 : Nat} {T e tS tI : TypeId} {fs : Array Field} {a : Option Addr} {n c : Nat} {d : DataW H} {p : List MemPlace} (ht : P.underlying T = some (.slice e)) (he : P.underlying e = some (.struct fs)) (hone : oneCellFields P fs = true) (hC : P.cellsOf e = fs.size) (hsz : fs.size = 4)
    (hI : ∀ j f, j < 3 → fs[j]? = some f → P.underlying f.type = some (.int .i64)) (hS : ∀ f, fs[3]? = some f → f.type = tS) (hS1 : P.underlying tS = some (.slice tI)) (hS2 : P.underlying tI = some (.int .i64)) (hS3 : P.cellsOf tI = 1)
    (hok : Value.okWide P w r b0 T (.slice a n c)) (h : DataW.Trod enc P w base (fun _ => true) held T (.slice a n c) d p) :
    ∃ (F : Nat → Job) (s : Nat → Value), n ≤ maxLen ∧ (∀ k, (F k).after.length ≤ maxLen) ∧ (∀ R k, OkB w R (s k, iv (F k).after)) ∧
      (∀ (bs : List AR) (e0 : Nat), (∀ k, k < n → bs[e0 + k]? = some (s k, iv (F k).after)) → OkB w (plN bs) (.slice a n c, jobCs F s e0 n)) ∧
      (∀ (bs : List AR) (i e0 : Nat), bs[i]? = some (.slice a n c, jobCs F s e0 n) → (∀ k, k < n → bs[e0 + k]? = some (s k, iv (F k).after)) → Jobs (bs.map mkB2) (mkV2 i (.slice a n c)) ((List.range n).map F)) := by
  obtain ⟨fuel, h⟩ := h
  rcases ok_slice ht hok with ⟨rfl, rfl, rfl⟩ | ⟨b, o, rfl, hle, hlt⟩
  · exact ⟨fun _ => default, fun _ => .slice none 0 0, by unfold maxLen; omega, fun _ => by show ([] : List Int).length ≤ _; simp, fun R k => .inl rfl, fun bs e0 _ => .inl rfl, fun bs i e0 hi _ =>
      ⟨i, 0, .inl ⟨rfl, rfl⟩, by simp; exact (List.getElem?_eq_some_iff.1 hi).1, fun k hk => by simp at hk⟩⟩
  · rcases open_slice_fields ht he hone hC h with ⟨hcs, _⟩ | ⟨x, l, cap, m, D, Pl, hcs, _, hl, hm, hmm, _, hrow⟩
    · simp [Value.cells] at hcs
    · simp [Value.cells] at hcs
      obtain ⟨rfl, rfl, rfl⟩ := hcs
      rw [if_pos rfl] at hmm
      have key : ∀ k : Nat, ∃ q : Job × Value, q.1.after.length ≤ maxLen ∧ (∀ R, OkB w R (q.2, iv q.1.after)) ∧ (∀ (bs : List AR) (i : Nat), bs[i]? = some (q.2, iv q.1.after) → Ints (bs.map mkB2) (mkV2 i q.2) q.1.after) ∧
          (k < n → w.cell? ⟨b, o + (k * 4 + 0), none⟩ = some (.int .i64 q.1.time) ∧ w.cell? ⟨b, o + (k * 4 + 1), none⟩ = some (.int .i64 q.1.due) ∧ w.cell? ⟨b, o + (k * 4 + 2), none⟩ = some (.int .i64 q.1.weight) ∧ w.cell? ⟨b, o + (k * 4 + 3), none⟩ = some q.2) := fun k => by
        by_cases hk : k < n
        · obtain ⟨ys, nn, _, _, _, hf⟩ := hrow k (by omega)
          rw [hsz] at hf
          have fi : ∀ j, j < 3 → ∃ z : Int, w.cell? ⟨b, o + (k * 4 + j), none⟩ = some (.int .i64 z) := fun j hj => by
            have hfj : fs[j]? = some (fs[j]'(by omega)) := Array.getElem?_eq_getElem (by omega)
            obtain ⟨v, y, h1, _, h3⟩ := hf j _ hfj
            obtain ⟨z, hz, _⟩ := DataW.trod_int (hI j _ hj hfj) h3
            simp at hz
            subst hz
            rw [Addr.add_lit] at h1
            exact ⟨z, h1⟩
          obtain ⟨z0, g0'⟩ := fi 0 (by omega)
          obtain ⟨z1, g1'⟩ := fi 1 (by omega)
          obtain ⟨z2, g2'⟩ := fi 2 (by omega)
          have hf3 : fs[3]? = some (fs[3]'(by omega)) := Array.getElem?_eq_getElem (by omega)
          obtain ⟨v, y, h1, _, h3⟩ := hf 3 _ hf3
          rw [hS _ hf3] at h3
          rw [Addr.add_lit] at h1
          obtain ⟨l, l1, l2, l3⟩ := ints_sl hS1 hS2 hS3 h3
          exact ⟨(⟨z0, z1, z2, l⟩, v), l1, l2, l3, fun _ => ⟨g0', g1', g2', h1⟩⟩
        · exact ⟨(default, .slice none 0 0), by show ([] : List Int).length ≤ _; simp, fun R => .inl rfl, fun bs i hi => ⟨i, 0, .inl ⟨rfl, rfl⟩, by simp; exact (List.getElem?_eq_some_iff.1 hi).1, fun k hk => by simp [default, instInhabitedJob] at hk⟩, fun h => absurd h hk⟩
      obtain ⟨G, hG⟩ := Classical.axiomOfChoice key
      refine ⟨fun k => (G k).1, fun k => (G k).2, by omega, fun k => (hG k).1, fun R k => (hG k).2.1 R, fun bs e0 hbs => ?_, fun bs i e0 hi hbs => ?_⟩
      · cases c with
        | zero =>
          obtain rfl : n = 0 := by omega
          exact .inr (.inl ⟨⟨b, o, none⟩, rfl⟩)
        | succ c =>
          refine .inr (.inr ⟨b, o, n, c, rfl, hle, hlt, fun j x hj => ?_⟩)
          have hjl := (List.getElem?_eq_some_iff.1 hj).1
          simp only [jobCs_len] at hjl
          have hk : j / 4 < n := by omega
          have hj4 : j % 4 < 4 := Nat.mod_lt _ (by omega)
          have e : j = j / 4 * 4 + j % 4 := by omega
          generalize hkk : j / 4 = k at *
          generalize hqq : j % 4 = q at *
          subst e
          have hcells : ∃ v, ((G k).1.cells (mkV2 (e0 + k) (G k).2))[q]? = some v := ⟨_, List.getElem?_eq_getElem (by simpa [Job.cells] using hj4)⟩
          obtain ⟨v, hv⟩ := hcells
          have hget := jobCs_get (fun k => (G k).1) (fun k => (G k).2) e0 n k hk q v hv
          simp only at hj
          rw [hget] at hj
          injection hj with hj
          subst hj
          obtain ⟨c0, c1, c2, c3⟩ := (hG k).2.2.2 hk
          rcases cells4 _ _ _ _ hv with ⟨rfl, rfl⟩ | ⟨rfl, rfl⟩ | ⟨rfl, rfl⟩ | ⟨rfl, rfl⟩
          · exact ⟨_, c0, .int _ _⟩
          · exact ⟨_, c1, .int _ _⟩
          · exact ⟨_, c2, .int _ _⟩
          · exact ⟨_, c3, relN (hbs k hk) ((hG k).2.1 (fun _ => none))⟩
      · have hlen : i < (bs.map mkB2).length := by simp; exact (List.getElem?_eq_some_iff.1 hi).1
        refine ⟨i, 0, by simpa [mkV2] using Sl.mk (Nat.le_refl n), hlen, fun k hk => ?_⟩
        have hk' : k < n := by simpa using hk
        have eg : ((List.range n).map fun k => (G k).1).getD k default = (G k).1 := by simp [hk']
        rw [eg]
        refine ⟨mkV2 (e0 + k) (G k).2, ?_, (hG k).2.2.1 bs (e0 + k) (hbs k hk')⟩
        cases c with
        | zero => omega
        | succ c =>
          refine ⟨{ cells := jobCs (fun k => (G k).1) (fun k => (G k).2) e0 n, kind := .ro }, by rw [List.getElem?_map, hi]; rfl, fun j v hj => ?_⟩
          rw [Nat.zero_add]
          exact jobCs_get _ _ e0 n k hk' j v hj
end
end Go.Proofs.Ytmomjannlnafcaa.Abs
namespace Go.Proofs.Ytmomjannlnafcaa.Abs
set_option linter.unusedSimpArgs false
set_option linter.unusedVariables false
open Go.RowKit
open Go.Proofs.Ytmomjannlnafcaa.Sim
open Go.Proofs
theorem short_rows {F : Nat → Job} {n : Nat} (h : n ≤ maxLen) (hF : ∀ k, (F k).after.length ≤ maxLen) : Short ((List.range n).map F) := by
  unfold maxLen at *
  refine ⟨by simp; omega, fun k hk => ?_⟩
  have hk' : k < n := by simpa using hk
  have e : ((List.range n).map F).getD k default = F k := by simp [hk']
  rw [e]
  have := hF k
  omega
end Go.Proofs.Ytmomjannlnafcaa.Abs
