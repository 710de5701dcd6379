/- Proved here: what the proof of TopTurned rests on, part 4 of 4. Conditions: those that each theorem names. -/
import Derived.Test.YtedbjmgchfgabaaDoorTopTurnedK3
namespace Go.Proofs.YtedbjmgchfgabaaDoor.Abs
set_option linter.unusedSimpArgs false
set_option linter.unusedVariables false
open Go.RowKit
open Go.Proofs.YtedbjmgchfgabaaDoor.Sim
/-- What an operation comes to: a value; a new block with the value that names it; a block made here is filled. -/
inductive Ent | val (d : Nat) (v : Value) | cp (d k : Nat) (f : Nat → Value) | mk (d : Nat) (f : Nat → Value) (b : Option Blk) | fill (k : Nat) (b : Option Blk)
def Ent.pr (p : Nat → Nat) (i : Nat) : Ent → List (Nat × Value)
  | .val d v => [(d, v)]
  | .cp d k f => [(d, f (p k))]
  | .mk d f _ => [(d, f (p i))]
  | .fill .. => []
/-- Of a list with the last one ahead: the n-th from behind. -/
def depG (p : Nat → Nat) (acc : List Ent) (D : List Nat) : List (Nat × Value) := D.flatMap fun j => (acc.getD j (.fill 0 none)).pr p (acc.length - 1 - j)
def fillOf (k : Nat) : List Ent → Option (Option Blk)
  | [] => none
  | .fill j b :: acc => if j = k then some b else fillOf k acc
  | _ :: acc => fillOf k acc
section
variable (P : Program) (nt : Nat) (m : AM) (ops : Array Oper) (bs : List (Nat × Value))
def EntOk (o : Oper) (dd : List Nat) (acc : List Ent) : Ent → Prop
  | .val d v => o.dst = some d ∧ ∀ p : Nat → Nat, (∀ k, m.length ≤ p k) → ∀ N : AM, Step P nt ops o (fr (depG p acc dd ++ bs)) (m ++ N) (fun t' m' => t' d = some v ∧ m' = m ++ N)
  | .cp d k f => o.dst = some d ∧ k < acc.length ∧ acc.length - 1 - k ∈ dd ∧ ∀ p : Nat → Nat, (∀ k, m.length ≤ p k) → ∀ N : AM, Step P nt ops o (fr (depG p acc dd ++ bs)) (m ++ N) (fun t' m' => t' d = some (f (p k)) ∧ m' = m ++ N)
  | .mk d f b => o.dst = some d ∧ ∀ p : Nat → Nat, (∀ k, m.length ≤ p k) → ∀ N : AM, Step P nt ops o (fr (depG p acc dd ++ bs)) (m ++ N) (fun t' m' => t' d = some (f (m ++ N).length) ∧ m' = (m ++ N) ++ [b])
  | .fill k b => o.dst = none ∧ fillOf k acc = none ∧ k < acc.length ∧ acc.length - 1 - k ∈ dd ∧ ∃ d f b0, acc[acc.length - 1 - k]? = some (.mk d f b0) ∧
      ∀ p : Nat → Nat, (∀ k, m.length ≤ p k) → ∀ M : AM, M[p k]? = some b0 → Step P nt ops o (fr (depG p acc dd ++ bs)) M (fun _ m' => m' = M.set (p k) b)
def AWg : List Oper → List (List Nat) → List Ent → (List Ent → Prop) → Prop
  | [], _, acc, Q => Q acc
  | o :: rest, D, acc, Q => ∃ e, EntOk P nt m ops bs o (D.headD []) acc e ∧ AWg rest D.tail (e :: acc) Q
end
section
variable {P : Program} {nt : Nat} {t : Fm} {m m0 : AM} {ops : Array Oper} {l : List Oper} {bs : List (Nat × Value)} {o : Oper} {rest : List Oper} {dd : List Nat} {D : List (List Nat)} {acc : List Ent} {Q : List Ent → Prop} {d : Nat} {v : Value}
theorem AWg.val (hd : o.dst = some d) (h : ∀ p : Nat → Nat, (∀ k, m.length ≤ p k) → ∀ N : AM, Step P nt ops o (fr (depG p acc dd ++ bs)) (m ++ N) (fun t' m' => t' d = some v ∧ m' = m ++ N)) (hr : AWg P nt m ops bs rest D (.val d v :: acc) Q) : AWg P nt m ops bs (o :: rest) (dd :: D) acc Q := ⟨.val d v, ⟨hd, h⟩, hr⟩
theorem AWg.ptr {b : Option Blk} (hd : o.dst = some d) (h : ∀ p : Nat → Nat, (∀ k, m.length ≤ p k) → ∀ N : AM, Step P nt ops o (fr (depG p acc dd ++ bs)) (m ++ N) (fun t' m' => t' d = some (.pointer (some ⟨(m ++ N).length, 0, none⟩)) ∧ m' = (m ++ N) ++ [b])) (hr : AWg P nt m ops bs rest D (.mk d (fun a => .pointer (some ⟨a, 0, none⟩)) b :: acc) Q) : AWg P nt m ops bs (o :: rest) (dd :: D) acc Q := ⟨.mk d (fun a => .pointer (some ⟨a, 0, none⟩)) b, ⟨hd, h⟩, hr⟩
theorem AWg.new (f : Nat → Value) {b : Option Blk} (hd : o.dst = some d) (h : ∀ p : Nat → Nat, (∀ k, m.length ≤ p k) → ∀ N : AM, Step P nt ops o (fr (depG p acc dd ++ bs)) (m ++ N) (fun t' m' => t' d = some (f (m ++ N).length) ∧ m' = (m ++ N) ++ [b])) (hr : AWg P nt m ops bs rest D (.mk d f b :: acc) Q) : AWg P nt m ops bs (o :: rest) (dd :: D) acc Q := ⟨.mk d f b, ⟨hd, h⟩, hr⟩
theorem AWg.fill (k : Nat) {d0 : Nat} {f0 : Nat → Value} {b b0 : Option Blk} (hd : o.dst = none) (h1 : fillOf k acc = none) (h2 : k < acc.length) (h3 : acc.length - 1 - k ∈ dd) (h4 : acc[acc.length - 1 - k]? = some (.mk d0 f0 b0))
    (h : ∀ p : Nat → Nat, (∀ k, m.length ≤ p k) → ∀ M : AM, M[p k]? = some b0 → Step P nt ops o (fr (depG p acc dd ++ bs)) M (fun _ m' => m' = M.set (p k) b)) (hr : AWg P nt m ops bs rest D (.fill k b :: acc) Q) : AWg P nt m ops bs (o :: rest) (dd :: D) acc Q := ⟨.fill k b, ⟨hd, h1, h2, h3, d0, f0, b0, h4, h⟩, hr⟩
section
variable {T : Nat} {pos : String} {af : Array Edge} {ty : TypeId} {b b0 : Option Blk}
end
theorem AWg.nil (h : Q acc) : AWg P nt m ops bs [] D acc Q := h
theorem AWg.get : ∀ {rest : List Oper} {D : List (List Nat)} {acc : List Ent} {Q : List Ent → Prop}, AWg P nt m ops bs rest D acc Q → ∃ a1 : List Ent, a1.length = rest.length ∧ Q (a1.reverse ++ acc) ∧ ∀ i o, rest[i]? = some o → ∃ e, a1[i]? = some e ∧ EntOk P nt m ops bs o (D.getD i []) ((a1.take i).reverse ++ acc) e
  | [], _, acc, Q, h => ⟨[], rfl, h, fun i o ho => by simp at ho⟩
  | o :: rest, D, acc, Q, h => by
    obtain ⟨e, h1, h2⟩ := h
    obtain ⟨a1, g1, g2, g3⟩ := AWg.get h2
    refine ⟨e :: a1, by simp [g1], by rw [List.reverse_cons, List.append_assoc]; exact g2, fun i o' ho => ?_⟩
    cases i with
    | zero =>
      simp only [List.getElem?_cons_zero, Option.some.injEq] at ho
      subst ho
      refine ⟨e, rfl, ?_⟩
      rw [List.take_zero, List.reverse_nil, List.nil_append]
      cases D <;> exact h1
    | succ i =>
      simp only [List.getElem?_cons_succ] at ho ⊢
      obtain ⟨e', k1, k2⟩ := g3 i o' ho
      refine ⟨e', k1, ?_⟩
      rw [List.take_succ_cons, List.reverse_cons, List.append_assoc]
      have : D.tail.getD i [] = D.getD (i + 1) [] := by cases D <;> simp
      rw [this] at k2
      exact k2
end
end Go.Proofs.YtedbjmgchfgabaaDoor.Abs
namespace Go.Proofs.YtedbjmgchfgabaaDoor.Abs
set_option linter.unusedSimpArgs false
set_option linter.unusedVariables false
open Go.RowKit
open Go.Proofs.YtedbjmgchfgabaaDoor.Sim
/-- A slice that names a whole row of one's own: n elements of s cells each. -/
def Row (M : AM) (b0 s : Nat) (u : Value) (c : List Value) (n : Nat) : Prop :=
  (u = .slice none 0 0 ∧ c = [] ∧ n = 0) ∨ ∃ (a : Nat) (kd : Kind) (sz : Nat), b0 ≤ a ∧ u = .slice (some ⟨a, 0, none⟩) n n ∧ M[a]? = some (some { cells := c, kind := kd, size := sz }) ∧ c.length = n * s ∧ (kd = .own ∨ kd = .grow ∧ sz = s)
theorem Row.len {M : AM} {b0 s : Nat} {u : Value} {c : List Value} {n : Nat} (h : Row M b0 s u c n) : c.length = n * s := by
  rcases h with ⟨_, rfl, rfl⟩ | ⟨a, kd, sz, _, _, _, h, _⟩
  · simp
  · exact h
theorem Row.nil {M : AM} {b0 s : Nat} : Row M b0 s (.slice none 0 0) [] 0 := .inl ⟨rfl, rfl, rfl⟩
theorem Row.low {M : AM} {b0 b1 s : Nat} {u : Value} {c : List Value} {n : Nat} (h : Row M b0 s u c n) (hb : b1 ≤ b0) : Row M b1 s u c n := by
  rcases h with h | ⟨a, kd, sz, h1, h2⟩
  · exact .inl h
  · exact .inr ⟨a, kd, sz, by omega, h2⟩
theorem Row.old {M : AM} {b0 s : Nat} {u : Value} {c : List Value} {n : Nat} (h : Row M b0 s u c n) (T : AM) : Row (M ++ T) b0 s u c n := by
  rcases h with h | ⟨a, kd, sz, h1, h2, h3, h4⟩
  · exact .inl h
  · exact .inr ⟨a, kd, sz, h1, h2, get_old _ h3, h4⟩
theorem Row.sl {M : AM} {b0 s : Nat} {u : Value} {c : List Value} {n : Nat} (h : Row M b0 s u c n) (hM : 0 < M.length) : ∃ a, Sl u a 0 n ∧ a < M.length ∧ (0 < n → RdL M a 0 c) := by
  rcases h with ⟨rfl, rfl, rfl⟩ | ⟨a, kd, sz, h1, rfl, h3, h4, _⟩
  · exact ⟨0, .inl ⟨rfl, rfl⟩, hM, fun h => absurd h (by omega)⟩
  · exact ⟨a, Sl.mk (Nat.le_refl _), (List.getElem?_eq_some_iff.1 h3).1, fun _ => ⟨_, h3, fun j v hj => by simpa using hj⟩⟩
/-- The block is the only one that an append may take. -/
def NotOf (u : Value) (j : Nat) : Prop := ∀ n c, u ≠ .slice (some ⟨j, 0, none⟩) n c
theorem NotOf.row {M : AM} {b0 s : Nat} {u : Value} {c : List Value} {n j : Nat} (h : Row M b0 s u c n) (hj : j < b0) : NotOf u j := by
  intro n' c' e
  rcases h with ⟨h, _⟩ | ⟨a, kd, sz, h1, h2, _⟩
  · rw [e] at h; cases h
  · rw [e] at h2
    simp only [Value.slice.injEq, Option.some.injEq, Addr.mk.injEq] at h2
    omega
/-- What lies ahead is as it was. -/
theorem pre_keep {m0 M M' : AM} (h : ∃ N, M = m0 ++ N) (hl : M.length ≤ M'.length) (hk : ∀ j, j < m0.length → M'[j]? = M[j]?) : ∃ N, M' = m0 ++ N := by
  obtain ⟨N, rfl⟩ := h
  refine ⟨M'.drop m0.length, ?_⟩
  rw [List.length_append] at hl
  have e : M'.take m0.length = m0 := by
    apply List.ext_getElem?
    intro j
    by_cases hj : j < m0.length
    · rw [List.getElem?_take, if_pos hj, hk j hj, List.getElem?_append_left hj]
    · rw [List.getElem?_eq_none (by rw [List.length_take]; omega), List.getElem?_eq_none (by omega)]
  have h2 := List.take_append_drop m0.length M'
  rw [e] at h2
  exact h2.symm
section
variable {P : Program} {nt : Nat} {ops : Array Oper} {t : Fm} {m : AM} {K : Fm → AM → Prop} {d T : Nat} {p : String} {af : Array Edge}
theorem acells_sl {m : AM} {s n a o : Nat} {v : Value} {new : List Value} (hs : Sl v a o n) (hr : 0 < n → RdL m a o new) (hn : new.length = n * s) (h0 : 0 < s) : acells (m ++ [none]) s n v = some new ∧ aSliceLen v = some n := by
  rcases hs with ⟨rfl, rfl⟩ | ⟨c, hc, rfl⟩ | ⟨rfl, o', k, rfl⟩
  · obtain rfl : new = [] := List.eq_nil_of_length_eq_zero (by simpa using hn)
    exact ⟨by simp [acells], rfl⟩
  · refine ⟨?_, rfl⟩
    by_cases hz : n = 0
    · subst hz
      obtain rfl : new = [] := List.eq_nil_of_length_eq_zero (by simpa using hn)
      simp [acells]
    · obtain ⟨b, r1, r2⟩ := hr (by omega)
      have hr' : (m ++ [none])[a]? = some (some b) := get_old _ r1
      have hns : 0 < n * s := Nat.mul_pos (by omega) h0
      have hlast := r2 (n * s - 1) new[n * s - 1] (List.getElem?_eq_getElem (by omega))
      have hlen := (List.getElem?_eq_some_iff.1 hlast).1
      have htake : (b.cells.drop o).take (n * s) = new := by
        apply List.ext_getElem?
        intro j
        by_cases hj : j < n * s
        · rw [List.getElem?_take, if_pos hj, List.getElem?_drop, r2 j new[j] (List.getElem?_eq_getElem (by omega)), List.getElem?_eq_getElem (by omega)]
        · rw [List.getElem?_take, if_neg hj, List.getElem?_eq_none (by omega)]
      simp only [acells, hr']
      rw [if_neg hz, if_pos ⟨Nat.le_refl _, by omega⟩, htake]
  · obtain rfl : new = [] := List.eq_nil_of_length_eq_zero (by simpa using hn)
    exact ⟨by simp [acells], rfl⟩
/-- APPEND. -/
theorem Step.appRow {x y : Operand} {X Y e e' : TypeId} {by_ s a o n xl b0 : Nat} {z : Array Value} {c new : List Value} {u yv : Value} (hx : evo t x = some u) (hy : evo t y = some yv) (hr : Row m b0 s u c n) (hs : Sl yv a o xl) (hrd : 0 < xl → RdL m a o new) (hE : elemB P X = some (e, s, by_, z)) (hY : P.underlying Y = some (.slice e'))
    (hn : new.length = xl * s) (hn1 : new.all (·.oneCell') = true) (h0 : Nat.blt 0 s = true) (hb : (n + xl) * by_ ≤ 1099511627776 ∧ n + xl ≤ 1099511627776) (hlt : Nat.blt d nt = true) (hbm : b0 ≤ m.length)
    (hK : ∀ u' M', Row M' b0 s u' (c ++ new) (n + xl) → m.length ≤ M'.length → (∀ j, j < m.length → NotOf u j → M'[j]? = m[j]?) → K (put t d u') M') :
    Step P nt ops ⟨some d, .call ⟨.builtin .append, #[x, y], #[X, Y]⟩, T, p, af, none⟩ t m K := by
  have h0 : 0 < s := Nat.le_of_ble_eq_true h0
  obtain ⟨hc1, hc2⟩ := acells_sl hs hrd hn h0
  have fin : ∀ v m', aloud P ⟨some d, .call ⟨.builtin .append, #[x, y], #[X, Y]⟩, T, p, af, none⟩ (evD t) (m ++ [none]) m.length = some (v, m') → K (put t d v) m' → Step P nt ops ⟨some d, .call ⟨.builtin .append, #[x, y], #[X, Y]⟩, T, p, af, none⟩ t m K :=
    fun v m' h hk => .l rfl rfl hlt rfl (by simp [Op.operands, Call.operands, hx, hy]) (loud_of_aloud rfl h hk)
  have hnone : ¬ ((!(new.all (·.oneCell')) || s == 0) = true) := by simp [hn1]; omega
  have set1 : ∀ (M : AM) (b : Blk), M.length = m.length → (M ++ [none]).set m.length (some b) = M ++ [some b] := fun M b h => by
    rw [List.set_append_right _ _ (by omega), h]
    simp
  rcases hr with ⟨rfl, rfl, rfl⟩ | ⟨q, kd, sz, hq0, rfl, hq, hcl, hkd⟩
  · by_cases hx0 : xl = 0
    · subst hx0
      obtain rfl : new = [] := List.eq_nil_of_length_eq_zero (by simpa using hn)
      refine fin (.slice none 0 0) (m ++ [none]) ?_ (hK _ _ Row.nil (by simp) fun j hj _ => List.getElem?_append_left hj)
      simp only [aloud, evD_of hx, evD_of hy, aappend, hE, hY, hc1, hc2]
      rw [if_neg hnone, if_pos trivial]
    · refine fin (.slice (some ⟨m.length, 0, none⟩) xl xl) (m ++ [some { cells := new, kind := .grow, size := s }]) ?_ (hK _ _ (.inr ⟨m.length, .grow, s, hbm, by rw [Nat.zero_add], by simp, by simpa using hn, .inr ⟨rfl, rfl⟩⟩) (by simp) fun j hj _ => List.getElem?_append_left hj)
      simp only [aloud, evD_of hx, evD_of hy, aappend, hE, hY, hc1, hc2]
      rw [if_neg hnone, if_neg hx0, if_pos (by simpa using hb), set1 m _ rfl]
  · have hg : (m ++ [none])[q]? = some (some { cells := c, kind := kd, size := sz }) := get_old _ hq
    have hql := (List.getElem?_eq_some_iff.1 hq).1
    by_cases hx0 : xl = 0
    · subst hx0
      obtain rfl : new = [] := List.eq_nil_of_length_eq_zero (by simpa using hn)
      refine fin (.slice (some ⟨q, 0, none⟩) n n) (m ++ [none]) ?_ (hK _ _ (.inr ⟨q, kd, sz, hq0, rfl, by rw [List.append_nil]; exact hg, by rw [List.append_nil]; exact hcl, hkd⟩) (by simp) fun j hj _ => List.getElem?_append_left hj)
      simp only [aloud, evD_of hx, evD_of hy, aappend, hE, hY, hc1, hc2]
      rw [if_neg hnone, if_pos trivial]
    · have hcn : (c ++ new).length = (n + xl) * s := by rw [List.length_append, hcl, hn, Nat.add_mul]
      rcases hkd with rfl | ⟨rfl, rfl⟩
      · refine fin (.slice (some ⟨m.length, 0, none⟩) (n + xl) (n + xl)) (m ++ [some { cells := c ++ new, kind := .grow, size := s }]) ?_ (hK _ _ (.inr ⟨m.length, .grow, s, hbm, rfl, by simp, hcn, .inr ⟨rfl, rfl⟩⟩) (by simp) fun j hj _ => List.getElem?_append_left hj)
        simp only [aloud, evD_of hx, evD_of hy, aappend, hE, hY, hc1, hc2]
        rw [if_neg hnone, if_neg hx0]
        simp only [hg]
        rw [if_neg (by omega), if_pos ⟨hb.1, hb.2, Nat.le_refl _⟩, if_pos (by omega), set1 m _ rfl]
        simp [List.take_of_length_le (show c.length ≤ n * s by omega)]
      · refine fin (.slice (some ⟨m.length, 0, none⟩) (n + xl) (n + xl)) ((m.set q none) ++ [some { cells := c ++ new, kind := .grow, size := sz }]) ?_ (hK _ _ (.inr ⟨m.length, .grow, sz, hbm, rfl, by simp, hcn, .inr ⟨rfl, rfl⟩⟩) (by simp) fun j hj hne => ?_)
        · simp only [aloud, evD_of hx, evD_of hy, aappend, hE, hY, hc1, hc2]
          rw [if_neg hnone, if_neg hx0]
          simp only [hg]
          rw [if_neg (by omega), if_pos ⟨hb.1, hb.2, Nat.le_refl _⟩, if_pos ⟨by omega, trivial⟩, List.set_append_left _ _ hql, set1 (m.set q none) _ (by simp)]
          simp [List.take_of_length_le (show c.length ≤ n * sz by omega)]
        · rw [List.getElem?_append_left (by simpa using hj), List.getElem?_set_ne]
          rintro rfl
          exact hne n n rfl
end
end Go.Proofs.YtedbjmgchfgabaaDoor.Abs
namespace Go.Proofs.YtedbjmgchfgabaaDoor.Abs
set_option linter.unusedSimpArgs false
set_option linter.unusedVariables false
open Go.RowKit
open Go.Proofs.YtedbjmgchfgabaaDoor.Sim
theorem NotOf.new {a j n c : Nat} (h : j < a) : NotOf (.slice (some ⟨a, 0, none⟩) n c) j := by
  intro n' c' e
  simp only [Value.slice.injEq, Option.some.injEq, Addr.mk.injEq] at e
  omega
theorem NotOf.nil {j : Nat} : NotOf (.slice none 0 0) j := fun n c e => by
  simp only [Value.slice.injEq] at e
  cases e.1
section
variable {P : Program} {nt : Nat} {ops : Array Oper} {t : Fm} {m : AM} {K : Fm → AM → Prop} {d T : Nat} {p : String} {af : Array Edge}
end
end Go.Proofs.YtedbjmgchfgabaaDoor.Abs
namespace Go.Proofs.YtedbjmgchfgabaaDoor.Abs
set_option linter.unusedSimpArgs false
set_option linter.unusedVariables false
open Go.RowKit
open Go.Proofs.YtedbjmgchfgabaaDoor.Sim
def by8 (l : List UInt8) : List Value := l.map fun b => .int .u8 (b.toNat : Int)
theorem by8_len (l : List UInt8) : (by8 l).length = l.length := by simp [by8]
theorem by8_get {l : List UInt8} {j : Nat} (h : j < l.length) : (by8 l)[j]? = some (.int .u8 ((l[j]).toNat : Int)) := by simp [by8, h]
theorem by8_set (l : List UInt8) (i : Nat) (b : UInt8) : (by8 l).set i (.int .u8 (b.toNat : Int)) = by8 (l.set i b) := by simp [by8, List.map_set]
theorem by8_rep (n : Nat) : by8 (List.replicate n 0) = List.replicate n (.int .u8 0) := by simp [by8]
section
variable {P : Program} {nt : Nat} {ops : Array Oper} {t : Fm} {m : AM} {K : Fm → AM → Prop} {d T : Nat} {p : String} {af : Array Edge}
/-- A string made of bytes. -/
theorem Step.toStr {x : Operand} {S D e a o n : Nat} {v : Value} {l : List UInt8} (hx : evo t x = some v) (hs : Sl v a o n) (hn : l.length = n) (hrd : RdL m a o (by8 l)) (hS : P.underlying S = some (.slice e)) (he : P.underlying e = some (.int .u8)) (hD : P.underlying D = some .string)
    (hlt : Nat.blt d nt = true) (hK : K (put t d (.string ⟨l.toArray⟩)) m) : Step P nt ops ⟨some d, .convert S D x, T, p, af, none⟩ t m K := by
  refine .l rfl rfl hlt (by simp [stillB, hS]) (by simp [Op.operands, hx]) ?_
  intro base R w b Q next hb hm hev hn'
  have h1 := hev x (by simp [Op.operands])
  rw [evD_of hx] at h1
  have hrun : (convert S D (b.eval x)).run P w = .ok (.string ⟨l.toArray⟩) w := by
    generalize b.eval x = x' at h1
    rcases hs with ⟨rfl, h0⟩ | ⟨c, hc, rfl⟩ | ⟨h0, o', k, rfl⟩
    · obtain rfl : l = [] := List.eq_nil_of_length_eq_zero (by omega)
      cases h1
      rw [run_convert_bytes_string w S D e none 0 0 hS he hD]
      simp [Conv.bytesToString]
      rfl
    · cases h1 with
      | slice _ _ _ _ q hq hle =>
      subst hn
      refine run_convert_bytes_back w S D e _ _ l hS he hD fun j hj => ?_
      obtain ⟨blk, k1, k2⟩ := hrd
      obtain ⟨v', r1, r2⟩ := (hm.of k1 hq).cell (k2 j _ (by8_get hj))
      rw [Addr.add_lit]
      cases r2
      rw [Nat.add_assoc]
      exact r1
    · obtain rfl : l = [] := List.eq_nil_of_length_eq_zero (by omega)
      subst h0
      cases h1 with
      | sliceSpot _ _ _ q hq => exact run_convert_bytes_back w S D e _ _ [] hS he hD fun j hj => by simp at hj
  exact wp_of_does rfl (.inl (by simp [execOp, hrun])) (hn' R (.string ⟨l.toArray⟩) _ m w (.string _) (.refl hm) hK)
end
end Go.Proofs.YtedbjmgchfgabaaDoor.Abs
namespace Go.Proofs.YtedbjmgchfgabaaDoor.Abs
set_option linter.unusedSimpArgs false
set_option linter.unusedVariables false
open Go.RowKit
open Go.Proofs.YtedbjmgchfgabaaDoor.Sim
open Go.Proofs
/-- A byte of a string. -/
def byte8 (s : ByteArray) (i : Nat) : UInt8 := s[i]?.getD 0
theorem byteAt_8 (s : ByteArray) (i : Nat) : byteAt s i = (byte8 s i).toNat := rfl
section
variable {B : Brd}
theorem skinRow (h : skinB B = true) {y : Nat} (hy : y < bh B) : (rowOf B y).size = bw B ∧ ∀ x, x < bw B → 48 ≤ byteAt (rowOf B y) x ∧ byteAt (rowOf B y) x ≤ 57 := by
  simp only [skinB, Bool.and_eq_true, decide_eq_true_eq, List.all_eq_true] at h
  have hm : rowOf B y ∈ B := by
    unfold rowOf
    rw [getD_in _ _ hy]
    exact List.getElem_mem hy
  have := h.2 _ hm
  simp only [rowB, Bool.and_eq_true, decide_eq_true_eq, List.all_eq_true, List.mem_range] at this
  exact ⟨this.1, fun x hx => this.2 x (by rw [this.1]; exact hx)⟩
theorem skin_of {B : Brd} (h1 : 1 ≤ bh B ∧ bh B ≤ 48) (h2 : 1 ≤ bw B ∧ bw B ≤ 48) (h : ∀ y, y < bh B → (rowOf B y).size = bw B ∧ ∀ x, x < bw B → 48 ≤ byteAt (rowOf B y) x ∧ byteAt (rowOf B y) x ≤ 57) : skinB B = true := by
  simp only [skinB, Bool.and_eq_true, decide_eq_true_eq, List.all_eq_true]
  refine ⟨⟨h1.1, h1.2, h2.1, h2.2⟩, fun s hs => ?_⟩
  obtain ⟨y, hy, rfl⟩ := List.getElem_of_mem hs
  have e : B[y] = rowOf B y := by
    unfold rowOf
    rw [getD_in _ _ hy]
  obtain ⟨k1, k2⟩ := h y hy
  rw [e]
  simp only [rowB, Bool.and_eq_true, decide_eq_true_eq, List.all_eq_true, List.mem_range]
  exact ⟨k1, fun x hx => k2 x (by rw [← k1]; exact hx)⟩
theorem skin_in (h : skinB B = true) : (1 ≤ bh B ∧ bh B ≤ 48) ∧ 1 ≤ bw B ∧ bw B ≤ 48 := by
  simp only [skinB, Bool.and_eq_true, decide_eq_true_eq] at h
  unfold bh bw
  omega
theorem board_skin (h : boardB B = true) : skinB B = true := by
  simp only [boardB, Bool.and_eq_true] at h
  exact h.1
variable {K : List Kd}
theorem best_V (hg : goodB B K = true) : bestM B K = V (leafM B K) (wholeR B) := by
  have hgb : boardB B = true := by simp only [goodB, Bool.and_eq_true] at hg; exact hg.1
  have hin := good_in hgb
  have hok : (wholeR B).ok (bw B) (bh B) := by
    simp only [R4.ok, wholeR]
    omega
  exact (bestT_ok (leaf := leafM B K) hin.2.2.2 hin.2.1).dn _ hok
theorem size_list (s : ByteArray) : s.data.toList.length = s.size := by
  show s.data.toList.length = s.data.size
  simp
theorem byte8_list (s : ByteArray) {i : Nat} (h : i < s.size) : byte8 s i = s.data.toList[i]'(by rw [size_list]; exact h) := by
  unfold byte8
  rw [getElem?_pos s i h]
  rfl
theorem whole_okR (h : boardB B = true) : (wholeR B).ok (bw B) (bh B) := by
  have hin := good_in h
  simp only [R4.ok, wholeR]
  omega
end
theorem kds_at {m L : AM} {k : Nat} {l : List Kd} (h : L[k]? = some (gb (kvc l) 5)) : Kds (m ++ L) (gv (m.length + k) l.length) l := by
  have hlt : m.length + k < (m ++ L).length := by
    rw [List.length_append]
    have := (List.getElem?_eq_some_iff.1 h).1
    omega
  refine ⟨m.length + k, 0, gv_sl _ _, hlt, fun i hi => ?_⟩
  have hp : 0 < (kvc l).length := by rw [kvc_len]; omega
  rw [gb_pos hp] at h
  refine ⟨_, by rw [get_app]; exact h, fun j v hj => ?_⟩
  rw [Nat.zero_add]
  exact kvc_get l i hi j v hj
theorem el31 : elemB Tryd.prog 23 = some (32, 5, 40, #[.int .i64 0, .int .i64 0, .int .i64 0, .int .i64 0, .bool false]) := by kernel_rfl
theorem un31 : Tryd.prog.underlying 23 = some (.slice 32) := by kernel_rfl
theorem bs31e {m : AM} {k : Nat} : abuildSlice Tryd.prog m k 23 0 [] = some (.slice (some ⟨k, 0, none⟩) 0 0, m.set k (some { cells := [] })) := by kernel_rfl
theorem kds_rdl {m : AM} {a : Nat} : ∀ (K : List Kd) (o : Nat), 0 < K.length → (∀ i, i < K.length → RdL m a (o + i * 5) (K.getD i default).cells) → RdL m a o (kvc K)
  | [], _, h, _ => by simp at h
  | k :: K, o, _, rd => by
    have r0 := rd 0 (by simp)
    rw [Nat.zero_mul, Nat.add_zero] at r0
    obtain ⟨b, k1, k2⟩ := r0
    refine ⟨b, k1, fun j v hj => ?_⟩
    have e : kvc (k :: K) = k.cells ++ kvc K := rfl
    have e5 : k.cells.length = 5 := rfl
    rw [e] at hj
    rcases Nat.lt_or_ge j 5 with hlt | hge
    · rw [List.getElem?_append_left (by rw [e5]; exact hlt)] at hj
      exact k2 j v hj
    · rw [List.getElem?_append_right (by rw [e5]; exact hge), e5] at hj
      have hK : 0 < K.length := by
        cases K with
        | nil => simp [kvc] at hj
        | cons x K => simp
      obtain ⟨b', q1, q2⟩ := kds_rdl K (o + 5) hK fun i hi => by
        have := rd (i + 1) (by simpa using hi)
        rw [show o + 5 + i * 5 = o + (i + 1) * 5 by omega]
        simpa using this
      rw [k1] at q1
      injection q1 with q1
      injection q1 with q1
      subst q1
      have := q2 (j - 5) v hj
      rwa [show o + 5 + (j - 5) = o + j by omega] at this
theorem row_kds {M : AM} {b0 n : Nat} {u : Value} {K : List Kd} (h : Row M b0 5 u (kvc K) n) (hn : n = K.length) (hM : 0 < M.length) : Kds M u K := by
  subst hn
  obtain ⟨a, h1, h2, h3⟩ := Row.sl h hM
  refine ⟨a, 0, h1, h2, fun i hi => ?_⟩
  obtain ⟨b, k1, k2⟩ := h3 (by omega)
  refine ⟨b, k1, fun j v hj => ?_⟩
  have := k2 _ v (kvc_get K i hi j v hj)
  rw [Nat.zero_add] at this ⊢
  exact this
set_option maxHeartbeats 4000000 in
set_option maxRecDepth 100000 in
theorem CloneK_ok {m : AM} {kv : Value} {K : List Kd} (hk : Kds m kv K) (hlen : K.length ≤ 1000) : ACall Tryd.prog 11 #[kv] m (More (fun M u => Row M m.length 5 u (kvc K) K.length) m) := by
  obtain ⟨A, O, sl, la, rd⟩ := hk
  have sl' := sl
  have fin : ∀ (v : Value), v = kv → (∃ q n c, kv = .slice (some q) n c) → ACall Tryd.prog 11 #[kv] m (More (fun M u => Row M m.length 5 u (kvc K) K.length) m) := fun v _ ⟨q, n, c, e⟩ => by
    subst e
    refine ACall.start Tryd.func11 rfl rfl ?_
    (repeat (first | (with_reducible refine AWo.cons ?_) | ((with_reducible refine Step.id ?_); first | ((with_reducible apply Step.move); exact rfl; exact rfl) | ((with_reducible apply Step.assign); exact rfl; exact rfl) | ((with_reducible apply Step.eqNil); exact rfl; exact rfl; exact un31; exact rfl) | ((with_reducible apply Step.buildS 0); exact rfl; exact rfl; exact (fun _ _ => bs31e); exact rfl; (focus (first | (simp only [List.nil_append, List.cons_append, List.set_cons_zero, List.set_cons_succ, iv_set, bv_set, iv_rep, bv_rep]; done) | (simp only [List.nil_append, List.cons_append, List.set_cons_zero, List.set_cons_succ, iv_set, bv_set, iv_rep, bv_rep]; rfl) | rfl)))) | (with_reducible refine AWo.nil ?_) | ((with_reducible apply AW.seq)) | ((with_reducible apply Then.n)) | ((with_reducible apply AW.regL)) | ((with_reducible apply AW.skip)) | ((with_reducible apply AW.condF); exact rfl; (focus (rfl)))))
    ((with_reducible apply Step.appRow (s := 5) (n := 0) (xl := K.length) (b0 := m.length) (c := [])); exact rfl; exact rfl; exact (.inr ⟨m.length + 0, .own, 1, by omega, rfl, by rw [get_app]; rfl, rfl, .inl rfl⟩); exact sl'; exact (fun h => (kds_rdl K O h rd).old _); exact el31; exact un31; (focus (rw [kvc_len])); exact (kvc_one K); exact rfl; (focus (omega)); exact rfl; (focus (simp)))
    intro u' M' hrow hl hkeep
    (repeat (first | (with_reducible refine AWo.cons ?_) | ((with_reducible refine Step.id ?_); ((with_reducible apply Step.assign); exact rfl; exact rfl)) | (with_reducible refine AWo.nil ?_) | ((with_reducible apply Then.n))))
    (refine AW.ret ?_; (repeat (first | refine Then.r ?_ | refine InBlk.r ?_)))
    obtain ⟨N, hN⟩ : ∃ N, M' = m ++ N := pre_keep ⟨_, rfl⟩ hl fun j hj => hkeep j (by rw [List.length_append]; omega) (fun n c e => by injection e with e _ _; injection e with e; injection e with e _ _; omega)
    exact ⟨_, rfl, N, hN, by rw [List.nil_append, Nat.zero_add] at hrow; exact hrow⟩
  rcases sl with ⟨rfl, h0⟩ | ⟨c, hc, rfl⟩ | ⟨h0, o', k, rfl⟩
  · obtain rfl : K = [] := List.eq_nil_of_length_eq_zero h0
    refine ACall.start Tryd.func11 rfl rfl ?_
    (repeat (first | (with_reducible refine AWo.cons ?_) | ((with_reducible refine Step.id ?_); first | ((with_reducible apply Step.move); exact rfl; exact rfl) | ((with_reducible apply Step.assign); exact rfl; exact rfl) | ((with_reducible apply Step.nilNil); exact rfl; exact rfl; exact un31; exact rfl)) | (with_reducible refine AWo.nil ?_) | ((with_reducible apply AW.seq)) | ((with_reducible apply Then.n)) | ((with_reducible apply AW.regL)) | ((with_reducible apply AW.condT); exact rfl; (focus (rfl)))))
    (refine AW.ret ?_; (repeat (first | refine Then.r ?_ | refine InBlk.r ?_)))
    exact ⟨_, rfl, [], rfl, Row.nil⟩
  · exact fin _ rfl ⟨_, _, _, rfl⟩
  · exact fin _ rfl ⟨_, _, _, rfl⟩
theorem sv_get (B : Brd) {y : Nat} (h : y < B.length) : (sv B)[y]? = some (.string (rowOf B y)) := by
  unfold sv rowOf
  rw [getD_in _ _ h]
  simp [h]
theorem sv_one (B : Brd) : (sv B).all (·.oneCell') = true := by
  rw [List.all_eq_true]
  intro v hv
  simp only [sv, List.mem_map] at hv
  obtain ⟨b, _, rfl⟩ := hv
  rfl
theorem strs_rdl {m : AM} {a o : Nat} {B : Brd} (h0 : 0 < B.length) (rd : ∀ y, y < B.length → Rd m a (o + y) (.string (rowOf B y))) : RdL m a o (sv B) := by
  obtain ⟨b, k1, k2⟩ := rd 0 h0
  refine ⟨b, k1, fun j v hj => ?_⟩
  have hl : j < B.length := by
    have := (List.getElem?_eq_some_iff.1 hj).1
    simpa [sv] using this
  rw [sv_get B hl] at hj
  injection hj with hj
  subst hj
  obtain ⟨b', q1, q2⟩ := rd j hl
  rw [k1] at q1
  injection q1 with q1
  injection q1 with q1
  subst q1
  exact q2
theorem bs30e {m : AM} {k : Nat} : abuildSlice Tryd.prog m k 22 0 [] = some (.slice (some ⟨k, 0, none⟩) 0 0, m.set k (some { cells := [] })) := by kernel_rfl
theorem row_strs {M : AM} {b0 n : Nat} {u : Value} {B : Brd} (h : Row M b0 1 u (sv B) n) (hn : n = B.length) (hM : 0 < M.length) : Strs M u B := by
  subst hn
  obtain ⟨a, h1, h2, h3⟩ := Row.sl h hM
  refine ⟨a, 0, h1, h2, fun y hy => ?_⟩
  have := (h3 (by omega)).at_ y (sv_get B hy)
  exact this
theorem un40 : Tryd.prog.underlying 96 = some (.slice 5) := by kernel_rfl
theorem un30 : Tryd.prog.underlying 22 = some (.slice 9) := by kernel_rfl
theorem el40 : elemB Tryd.prog 96 = some (5, 1, 1, #[.int .u8 0]) := by kernel_rfl
theorem el30 : elemB Tryd.prog 22 = some (9, 1, 16, #[.string ByteArray.empty]) := by kernel_rfl
/-- A made picture: h rows of w bytes; y of them are done. -/
def rowF (F : Nat → Nat → UInt8) (w y : Nat) : List UInt8 := (List.range w).map (F y)
def rowK (F : Nat → Nat → UInt8) (w y k : Nat) : List UInt8 := (List.range w).map fun x => if x < k then F y x else 0
def picK (F : Nat → Nat → UInt8) (w h k : Nat) : List Value := (List.range h).map fun y => if y < k then .string ⟨(rowF F w y).toArray⟩ else .string ByteArray.empty
theorem rowK_zero (F : Nat → Nat → UInt8) (w y : Nat) : rowK F w y 0 = List.replicate w 0 := by
  apply List.ext_getElem
  · simp [rowK]
  · intro i h1 h2
    simp [rowK]
theorem rowK_full (F : Nat → Nat → UInt8) (w y : Nat) : rowK F w y w = rowF F w y := by
  apply List.ext_getElem
  · simp [rowK, rowF]
  · intro i h1 h2
    simp only [rowK, List.length_map, List.length_range] at h1
    simp [rowK, rowF, h1]
theorem rowK_set (F : Nat → Nat → UInt8) (w y : Nat) (k : Nat) : (rowK F w y k).set k (F y k) = rowK F w y (k + 1) := by
  apply List.ext_getElem
  · simp [rowK]
  · intro i h1 h2
    simp only [rowK, List.length_set, List.length_map, List.length_range] at h1
    rw [List.getElem_set]
    by_cases e : k = i
    · subst e; simp [rowK]
    · rw [if_neg e]
      simp only [rowK, List.getElem_map, List.getElem_range]
      by_cases h : i < k
      · rw [if_pos h, if_pos (by omega)]
      · rw [if_neg h, if_neg (by omega)]
theorem picK_zero (F : Nat → Nat → UInt8) (w h : Nat) : picK F w h 0 = List.replicate h (.string ByteArray.empty) := by
  apply List.ext_getElem
  · simp [picK]
  · intro i h1 h2
    simp [picK]
theorem picK_set (F : Nat → Nat → UInt8) (w h : Nat) (k : Nat) : (picK F w h k).set k (.string ⟨(rowF F w k).toArray⟩) = picK F w h (k + 1) := by
  apply List.ext_getElem
  · simp [picK]
  · intro i h1 h2
    simp only [picK, List.length_set, List.length_map, List.length_range] at h1
    rw [List.getElem_set]
    by_cases e : k = i
    · subst e; simp [picK]
    · rw [if_neg e]
      simp only [picK, List.getElem_map, List.getElem_range]
      by_cases h : i < k
      · rw [if_pos h, if_pos (by omega)]
      · rw [if_neg h, if_neg (by omega)]
theorem picK_len (F : Nat → Nat → UInt8) (w h k : Nat) : (picK F w h k).length = h := by simp [picK]
theorem rowK_len (F : Nat → Nat → UInt8) (w h k : Nat) : (rowK F w h k).length = w := by simp [rowK]
theorem g0_picK (F : Nat → Nat → UInt8) (w h k : Nat) : ∀ v ∈ picK F w h k, g0 v = true := by
  intro v hv
  simp only [picK, List.mem_map] at hv
  obtain ⟨y, _, rfl⟩ := hv
  split <;> rfl
/-- The picture as a board. -/
def picB (F : Nat → Nat → UInt8) (w h : Nat) : Brd := (List.range h).map fun y => ⟨(rowF F w y).toArray⟩
theorem picB_strs {F : Nat → Nat → UInt8} {w h a n : Nat} {m : AM} {b : Blk} (hb : m[a]? = some (some b)) (hc : b.cells = picK F w h h) (hn : n = h) : Strs m (.slice (some ⟨a, 0, none⟩) n n) (picB F w h) := by
  subst hn
  refine ⟨a, 0, .inr (.inl ⟨n, by simp [picB], by simp [picB]⟩), (List.getElem?_eq_some_iff.1 hb).1, fun y hy => ⟨b, hb, ?_⟩⟩
  have hy' : y < n := by simpa [picB] using hy
  have e : rowOf (picB F w n) y = ⟨(rowF F w y).toArray⟩ := by
    unfold rowOf
    rw [getD_in _ _ hy]
    simp [picB]
  rw [hc, e, Nat.zero_add]
  simp [picK, hy']
set_option maxHeartbeats 4000000 in
set_option maxRecDepth 100000 in
theorem turned_ok {m : AM} {w h : Nat} {F : Nat → Nat → UInt8} {g : FuncId} {fn : Func} {b : Code} {caps : Array Value} (hw : 1 ≤ w ∧ w ≤ 48) (hh : 1 ≤ h ∧ h ≤ 48) (hf : Tryd.prog.funcs[g]? = some fn) (hb : fn.body = some b) (hlow : Low m.length (.func (.func g) #[] caps))
    (hF : ∀ x y, x < w → y < h → ∀ T, ACall Tryd.prog g (#[.int .i64 (x : Nat), .int .i64 (y : Nat)] ++ caps) (m ++ T) (Ret (.int .u8 ((F y x).toNat : Nat)) (m ++ T))) :
    ACall Tryd.prog 30 #[.int .i64 (w : Nat), .int .i64 (h : Nat), .func (.func g) #[] caps] m (New (some { cells := picK F w h h }) h m) := by
  refine ACall.start Tryd.func30 rfl rfl ?_
  (repeat (first | (with_reducible refine AWo.cons ?_) | ((with_reducible refine Step.id ?_); first | ((with_reducible apply Step.move); exact rfl; exact rfl) | ((with_reducible apply Step.assign); exact rfl; exact rfl) | ((with_reducible apply Step.len); exact rfl; (focus (exact Sl.mk (by omega))); (focus (decide +kernel)); exact rfl) | ((with_reducible apply Step.make1 0); exact rfl; exact rfl; exact rfl; exact el30; (focus (omega)); exact rfl; (focus (first | (simp only [List.nil_append, List.cons_append, List.set_cons_zero, List.set_cons_succ, iv_set, bv_set, iv_rep, bv_rep]; done) | (simp only [List.nil_append, List.cons_append, List.set_cons_zero, List.set_cons_succ, iv_set, bv_set, iv_rep, bv_rep]; rfl) | rfl)))) | (with_reducible refine AWo.nil ?_) | ((with_reducible apply AW.seq)) | ((with_reducible apply Then.n)) | ((with_reducible apply AW.regL)) | ((with_reducible apply AW.block))))
  refine AW.loopT (fun n t L => ∃ y : Nat, n = h - y ∧ y ≤ h ∧ L = [some { cells := picK F w h y }] ∧
    t = [(0, .int .i64 (w : Nat)), (2, .func (.func g) #[] caps), (7, .slice (some ⟨m.length + 0, 0, none⟩) h h), (14, .int .i64 (h : Nat)), (15, .int .i64 (y : Nat))])
    ⟨_, _, _, (Or.inl ⟨rfl, (by repeat (first | exact trivial | (refine And.intro rfl ?_)))⟩), 0, rfl, Nat.zero_le _, by rw [picK_zero], rfl⟩ ?_
  rintro n t L ⟨y, rfl, hy, rfl, rfl⟩
  rcases Nat.lt_or_ge y h with hlt | hge
  · have gp := g0_picK F w h y
    (repeat (first | (with_reducible refine AWo.cons ?_) | ((with_reducible refine Step.id ?_); first | ((with_reducible apply Step.move); exact rfl; exact rfl) | ((with_reducible apply Step.assign); exact rfl; exact rfl) | ((with_reducible apply Step.lss); exact rfl; exact rfl; exact rfl) | ((with_reducible apply Step.len); exact rfl; (focus (exact Sl.mk (by omega))); (focus (decide +kernel)); exact rfl) | ((with_reducible apply Step.make1 1); exact rfl; exact rfl; exact rfl; exact el40; (focus (omega)); exact rfl; (focus (first | (simp only [List.nil_append, List.cons_append, List.set_cons_zero, List.set_cons_succ, iv_set, bv_set, iv_rep, bv_rep]; done) | (simp only [List.nil_append, List.cons_append, List.set_cons_zero, List.set_cons_succ, iv_set, bv_set, iv_rep, bv_rep]; rfl) | rfl)))) | (with_reducible refine AWo.nil ?_) | ((with_reducible apply AW.seq)) | ((with_reducible apply Then.n)) | ((with_reducible apply AW.regL)) | ((with_reducible apply AW.block)) | ((with_reducible apply AW.skip)) | ((with_reducible apply AW.condT); exact rfl; (focus ((simp only [decide_eq_true_eq, decide_eq_false_iff_not, Bool.not_eq_true', Bool.not_eq_false', Bool.not_true, Bool.not_false]; first | assumption | omega))))))
    refine AW.loopT (fun n t L => ∃ x : Nat, n = w - x ∧ x ≤ w ∧ L = [some { cells := picK F w h y }, some { cells := by8 (rowK F w y x) }] ∧
      t = [(0, .int .i64 (w : Nat)), (2, .func (.func g) #[] caps), (7, .slice (some ⟨m.length + 0, 0, none⟩) h h), (8, .int .i64 (y : Nat)), (9, .slice (some ⟨m.length + 1, 0, none⟩) w w), (14, .int .i64 (h : Nat)), (15, .int .i64 (y : Nat)), (21, .int .i64 (w : Nat)), (22, .int .i64 (x : Nat))])
      ⟨_, _, _, (Or.inl ⟨rfl, (by repeat (first | exact trivial | (refine And.intro rfl ?_)))⟩), 0, rfl, Nat.zero_le _, by rw [rowK_zero, by8_rep], rfl⟩ ?_
    rintro n t L ⟨x, rfl, hx, rfl, rfl⟩
    rcases Nat.lt_or_ge x w with hxl | hxg
    · have hc := hF x y hxl hlt
      have hst := rowK_set F w y x
      have hl := rowK_len F w y x
      have hl8 := by8_len (rowK F w y x)
      generalize hr0 : rowK F w y x = r at *
      (repeat (first | (with_reducible refine AWo.cons ?_) | ((with_reducible refine Step.id ?_); first | ((with_reducible apply Step.move); exact rfl; exact rfl) | ((with_reducible apply Step.assign); exact rfl; exact rfl) | ((with_reducible apply Step.ix1z); exact rfl; (focus (exact Sl.mk (by omega))); exact rfl; (focus (decide +kernel)); exact rfl; (focus (omega))) | ((with_reducible apply Step.add); exact rfl; exact rfl; (focus (omega)); exact rfl) | ((with_reducible apply Step.lss); exact rfl; exact rfl; exact rfl) | ((with_reducible apply Step.callV fit); exact rfl; exact rfl; exact hf; exact hb; exact rfl; exact (hc _)) | ((with_reducible apply Step.store (k := 1)); exact rfl; exact rfl; exact rfl; exact rfl; (focus (decide +kernel)); exact rfl; exact rfl; (focus (first | omega | (simp [iv, bv]; done) | (simp [iv, bv]; omega))); (focus (first | (simp only [List.nil_append, List.cons_append, List.set_cons_zero, List.set_cons_succ, iv_set, bv_set, iv_rep, bv_rep]; done) | (simp only [List.nil_append, List.cons_append, List.set_cons_zero, List.set_cons_succ, iv_set, bv_set, iv_rep, bv_rep]; rfl) | rfl)))) | (with_reducible refine AWo.nil ?_) | ((with_reducible apply AW.seq)) | ((with_reducible apply Then.n)) | ((with_reducible apply AW.regL)) | ((with_reducible apply AW.block)) | ((with_reducible apply InBlk.n)) | ((with_reducible apply AW.skip)) | ((with_reducible apply AW.condT); exact rfl; (focus ((simp only [decide_eq_true_eq, decide_eq_false_iff_not, Bool.not_eq_true', Bool.not_eq_false', Bool.not_true, Bool.not_false]; first | assumption | omega))))))
      exact ⟨_, _, [some { cells := picK F w h y }, some { cells := by8 (rowK F w y (x + 1)) }], by omega, (Or.inl ⟨by rw [← hst, ← by8_set], (by repeat (first | exact trivial | (refine And.intro rfl ?_)))⟩), x + 1, rfl, by omega, rfl, rfl⟩
    · obtain rfl : x = w := by omega
      have hr8 : ∀ T, RdL (m ++ ([some { cells := picK F x h y }, some { cells := by8 (rowK F x y x) }] ++ T)) (m.length + 1) 0 (by8 (rowF F x y)) := fun T => by rw [← rowK_full]; exact RdL.new rfl rfl
      have hrl : (rowF F x y).length = x := by simp [rowF]
      have hpl := picK_len F x h y
      have hst := picK_set F x h y
      (repeat (first | (with_reducible refine AWo.cons ?_) | ((with_reducible refine Step.id ?_); first | ((with_reducible apply Step.move); exact rfl; exact rfl) | ((with_reducible apply Step.lss); exact rfl; exact rfl; exact rfl)) | (with_reducible refine AWo.nil ?_) | ((with_reducible apply AW.seq)) | ((with_reducible apply Then.n)) | ((with_reducible apply AW.regL)) | ((with_reducible apply AW.exit)) | ((with_reducible apply InBlk.hit)) | ((with_reducible apply Then.e)) | ((with_reducible apply AW.condF); exact rfl; (focus ((simp only [decide_eq_true_eq, decide_eq_false_iff_not, Bool.not_eq_true', Bool.not_eq_false', Bool.not_true, Bool.not_false]; first | assumption | omega))))))
      ((with_reducible apply Step.toStr (l := rowF F x y)); exact rfl; exact (Sl.mk (Nat.le_refl _)); exact hrl; (focus (simpa using hr8 [])); exact un40; exact un5; exact un9; exact rfl)
      (repeat (first | (with_reducible refine AWo.cons ?_) | ((with_reducible refine Step.id ?_); first | ((with_reducible apply Step.move); exact rfl; exact rfl) | ((with_reducible apply Step.ix1z); exact rfl; (focus (exact Sl.mk (by omega))); exact rfl; (focus (decide +kernel)); exact rfl; (focus (omega))) | ((with_reducible apply Step.add); exact rfl; exact rfl; (focus (omega)); exact rfl) | ((with_reducible apply Step.store (k := 0)); exact rfl; exact rfl; exact rfl; exact rfl; (focus (decide +kernel)); exact rfl; exact rfl; (focus (first | omega | (simp [iv, bv]; done) | (simp [iv, bv]; omega))); (focus (first | (simp only [List.nil_append, List.cons_append, List.set_cons_zero, List.set_cons_succ, iv_set, bv_set, iv_rep, bv_rep]; done) | (simp only [List.nil_append, List.cons_append, List.set_cons_zero, List.set_cons_succ, iv_set, bv_set, iv_rep, bv_rep]; rfl) | rfl)))) | (with_reducible refine AWo.nil ?_) | ((with_reducible apply Then.n)) | ((with_reducible apply AW.regL)) | ((with_reducible apply InBlk.n))))
      exact ⟨_, [(0, .int .i64 (x : Nat)), (2, .func (.func g) #[] caps), (7, .slice (some ⟨m.length + 0, 0, none⟩) h h), (14, .int .i64 (h : Nat)), (15, .int .i64 (y + 1 : Nat))], [some { cells := picK F x h (y + 1) }], by omega, by rw [← hst]; have gp' : ∀ v ∈ (picK F x h y).set y (.string ⟨(rowF F x y).toArray⟩), g0 v = true := (by rw [hst]; exact g0_picK _ _ _ _); exact (Back.trim rfl rfl (by repeat (first | exact CellsOk.nil | refine CellsOk.cons (by assumption) ?_)) (by repeat (first | exact trivial | (refine And.intro ⟨rfl, by (first | exact Low.rid (by assumption) (by simp) | exact .int _ _ | exact .slice _ _ _ _ (by first | (simp; done) | omega | (simp; omega)))⟩ ?_)))), y + 1, rfl, by omega, rfl, rfl⟩
  · obtain rfl : y = h := by omega
    (repeat (first | (with_reducible refine AWo.cons ?_) | ((with_reducible refine Step.id ?_); first | ((with_reducible apply Step.move); exact rfl; exact rfl) | ((with_reducible apply Step.assign); exact rfl; exact rfl) | ((with_reducible apply Step.lss); exact rfl; exact rfl; exact rfl)) | (with_reducible refine AWo.nil ?_) | ((with_reducible apply AW.seq)) | ((with_reducible apply Then.n)) | ((with_reducible apply AW.regL)) | ((with_reducible apply AW.exit)) | ((with_reducible apply InBlk.hit)) | ((with_reducible apply Then.e)) | ((with_reducible apply AW.condF); exact rfl; (focus ((simp only [decide_eq_true_eq, decide_eq_false_iff_not, Bool.not_eq_true', Bool.not_eq_false', Bool.not_true, Bool.not_false]; first | assumption | omega))))))
    (refine AW.retB (l := [(6, _)]) (Or.inl ⟨rfl, (by repeat (first | exact trivial | (refine And.intro rfl ?_)))⟩) ?_; (repeat (first | refine Then.r ?_ | refine InBlk.r ?_)))
    exact ⟨_, rfl, rfl, rfl⟩
end Go.Proofs.YtedbjmgchfgabaaDoor.Abs
namespace Go.Proofs.YtedbjmgchfgabaaDoor.Abs
set_option linter.unusedSimpArgs false
set_option linter.unusedVariables false
section
variable {leaf leaf' : R4 → Int} {w h : Nat}
/-- The rectangle of the old board (w wide, h high) of which r is the turned one. -/
def rot (h : Nat) (r : R4) : R4 := ⟨r.y, h - r.x - r.a, r.b, r.a⟩
theorem rot_ok {r : R4} (hr : r.ok h w) : (rot h r).ok w h := by unfold R4.ok rot at *; simp only; omega
theorem V_turn (hl : ∀ r : R4, r.ok h w → leaf' r = leaf (rot h r)) : ∀ r : R4, r.ok h w → V leaf' r = V leaf (rot h r) := by
  refine R4.ind fun r hr ih => ?_
  have hm := rot_ok hr
  rw [V_eq hr, V_eq hm, hl r hr]
  have e1 : cutM (V leaf') r false = cutM (V leaf) (rot h r) true := by
    unfold cutM
    refine mxc_congr _ fun i h1 h2 => ?_
    have h3 : i + 1 ≤ r.len false := by omega
    rw [ih _ (lo_ok hr h1 h3) (lo_size hr h1 h3), ih _ (hi_ok hr h1 h3) (hi_size hr h1 h3)]
    rfl
  have e2 : cutM (V leaf') r true = cutM (V leaf) (rot h r) false := by
    unfold cutM
    rw [← mxc_rev]
    refine mxc_congr _ fun i h1 h2 => ?_
    have h2' : i ≤ r.a - 1 := h2
    have h3 : r.len true - 1 + 1 - i + 1 ≤ r.len true := by unfold R4.len; simp only [if_true]; omega
    have h4 : 1 ≤ r.len true - 1 + 1 - i := by unfold R4.len; simp only [if_true]; omega
    rw [ih _ (lo_ok hr h4 h3) (lo_size hr h4 h3), ih _ (hi_ok hr h4 h3) (hi_size hr h4 h3), Int.add_comm]
    have hok := hr
    obtain ⟨x, y, a, b⟩ := r
    simp only [R4.len, R4.lo, R4.hi, rot, if_true, Bool.false_eq_true, if_false, R4.ok] at *
    have q1 : a - (a - 1 + 1 - i) = i := by omega
    have q2 : h - (x + (a - 1 + 1 - i)) - (a - (a - 1 + 1 - i)) = h - x - a := by omega
    have q3 : h - x - (a - 1 + 1 - i) = h - x - a + i := by omega
    have q4 : a - 1 + 1 - i = a - i := by omega
    rw [q2, q3, q1, q4]
  rw [e1, e2]
  omega
end
/-- A kind turned. -/
def swK (k : Kd) : Kd := { k with w := k.h, h := k.w }
theorem swK_B (k : Kd) : kdB (swK k) = kdB k := by
  simp only [kdB, swK]
  congr 1
  exact propext ⟨fun h => by omega, fun h => by omega⟩
theorem swK_kinds (K : List Kd) : kindsB (K.map swK) = kindsB K := by
  unfold kindsB
  rw [List.length_map, List.all_map]
  congr 1
  congr 1
  funext k
  exact swK_B k
theorem swK_getD (K : List Kd) (i : Nat) : (K.map swK).getD i default = swK (K.getD i default) := by
  simp only [List.getD_eq_getElem?_getD, List.getElem?_map]
  cases K[i]? <;> rfl
section
variable {B B' : Brd} {K : List Kd} {g : Int} {w h : Nat}
theorem cnt_a0 (x y : Nat) : ∀ b, cnt B g x y 0 b = 0
  | 0 => rfl
  | b + 1 => by rw [cnt, cnt_a0 x y b]; rfl
theorem cnt_col (hm : ∀ y, y < w → ∀ x, x < h → gr B' x y = gr B y (h - 1 - x)) {x y : Nat} (hx : x < h) : ∀ b, y + b ≤ w → cnt B' g x y 1 b = rowc B g (h - 1 - x) y b
  | 0, _ => rfl
  | b + 1, hb => by
    have e : rowc B' g (y + b) x 1 = if g ≤ gr B' x (y + b) then 1 else 0 := by
      show 0 + (if g ≤ gr B' (x + 0) (y + b) then 1 else 0) = _
      rw [Nat.zero_add]
      rfl
    rw [cnt, cnt_col hm hx b (by omega), e, rowc, hm (y + b) (by omega) x hx]
theorem cnt_turn (hm : ∀ y, y < w → ∀ x, x < h → gr B' x y = gr B y (h - 1 - x)) {x y b : Nat} (hy : y + b ≤ w) : ∀ a, x + a ≤ h → cnt B' g x y a b = cnt B g y (h - x - a) b a
  | 0, _ => by rw [cnt_a0]; rfl
  | a + 1, ha => by
    rw [cnt_addX, cnt_turn hm hy a (by omega), cnt_col hm (by omega) b hy, show h - x - (a + 1) = h - 1 - (x + a) by omega]
    have e := cnt_addY B g y (h - 1 - (x + a)) b 1 a
    rw [Nat.add_comm 1 a] at e
    rw [e, show h - 1 - (x + a) + 1 = h - x - a by omega]
    simp only [cnt, Nat.add_zero, Nat.zero_add]
    omega
theorem fits_turn (k : Kd) {r : R4} (hr : r.ok h w) (hm : ∀ y, y < w → ∀ x, x < h → gr B' x y = gr B y (h - 1 - x)) : (fitsM B' (swK k) r).isSome = (fitsM B k (rot h r)).isSome := by
  have e : cnt B' k.g r.x r.y r.a r.b = cnt B k.g (rot h r).x (rot h r).y (rot h r).a (rot h r).b := cnt_turn hm hr.2.2.2 r.a hr.2.2.1
  have ec : (rot h r).a * (rot h r).b = r.a * r.b := Nat.mul_comm _ _
  unfold fitsM
  rw [← e, ec]
  have c1 : ((swK k).w = r.a ∧ (swK k).h = r.b) = (k.w = (rot h r).a ∧ k.h = (rot h r).b) := propext ⟨fun h => ⟨h.2, h.1⟩, fun h => ⟨h.2, h.1⟩⟩
  have c2 : ((swK k).turn = true ∧ (swK k).w = r.b ∧ (swK k).h = r.a) = (k.turn = true ∧ k.w = (rot h r).b ∧ k.h = (rot h r).a) := propext ⟨fun h => ⟨h.1, h.2.2, h.2.1⟩, fun h => ⟨h.1, h.2.2, h.2.1⟩⟩
  have c3 : (swK k).g = k.g := rfl
  simp only [c1, c2, c3]
theorem leafM_turn {r : R4} (hr : r.ok h w) (hm : ∀ y, y < w → ∀ x, x < h → gr B' x y = gr B y (h - 1 - x)) : leafM B' (K.map swK) r = leafM B K (rot h r) := by
  unfold leafM
  rw [List.length_map]
  have : ∀ n, leafN B' (K.map swK) r n = leafN B K (rot h r) n := fun n => by
    induction n with
    | zero => rfl
    | succ n ih =>
      simp only [leafN]
      rw [ih, swK_getD, fits_turn _ hr hm]
      rfl
  exact this _
end
/-- The board turned. -/
def turnS (B : Brd) (y : Nat) : ByteArray := ⟨((List.range (bh B)).map fun x => byte8 (rowOf B (bh B - 1 - x)) y).toArray⟩
def turnB (B : Brd) : Brd := (List.range (bw B)).map (turnS B)
theorem turnS_size (B : Brd) (y : Nat) : (turnS B y).size = bh B := by simp [turnS, ByteArray.size]
theorem turnS_byte (B : Brd) (y : Nat) {x : Nat} (hx : x < bh B) : byteAt (turnS B y) x = byteAt (rowOf B (bh B - 1 - x)) y := by
  have h1 : x < (turnS B y).size := by rw [turnS_size]; exact hx
  have h0 : x < (turnS B y).data.toList.length := by rw [size_list]; exact h1
  rw [byteAt_8, byteAt_8, byte8_list _ h1]
  simp [turnS]
theorem turnB_len (B : Brd) : bh (turnB B) = bw B := by simp [turnB, bh]
theorem turnB_row (B : Brd) {y : Nat} (h : y < bw B) : rowOf (turnB B) y = turnS B y := by
  have h' : y < (turnB B).length := by have := turnB_len B; unfold bh at this; omega
  unfold rowOf
  rw [getD_in _ _ h']
  simp [turnB]
theorem turnB_w (B : Brd) (h : 1 ≤ bw B) : bw (turnB B) = bh B := by
  unfold bw
  rw [turnB_row B (by omega), turnS_size]
theorem turn_skin {B : Brd} (h : skinB B = true) : skinB (turnB B) = true ∧ bw (turnB B) = bh B ∧ bh (turnB B) = bw B := by
  have hin : 1 ≤ bh B ∧ bh B ≤ 48 ∧ 1 ≤ bw B ∧ bw B ≤ 48 := by
    simp only [skinB, Bool.and_eq_true, decide_eq_true_eq] at h
    exact h.1
  have e1 := turnB_len B
  have e2 := turnB_w B hin.2.2.1
  refine ⟨skin_of (by rw [e1]; exact hin.2.2) (by rw [e2]; exact ⟨hin.1, hin.2.1⟩) fun y hy => ?_, e2, e1⟩
  rw [e1] at hy
  rw [turnB_row B hy, turnS_size, e2]
  refine ⟨rfl, fun x hx => ?_⟩
  rw [turnS_byte B y hx]
  exact (skinRow h (show bh B - 1 - x < bh B by omega)).2 y hy
theorem gr_turn {B : Brd} {x y : Nat} (hy : y < bw B) (hx : x < bh B) : gr (turnB B) x y = gr B y (bh B - 1 - x) := by
  unfold gr
  rw [turnB_row B hy, turnS_byte B y hx]
theorem turn_board {B : Brd} (h : boardB B = true) : boardB (turnB B) = true := by
  have hin := good_in h
  obtain ⟨t1, t2, t3⟩ := turn_skin (board_skin h)
  simp only [boardB, Bool.and_eq_true, decide_eq_true_eq]
  refine ⟨t1, ?_⟩
  unfold bh bw at *
  omega
theorem best_turn {B : Brd} {K : List Kd} (hg : goodB B K = true) : goodB (turnB B) (K.map swK) = true ∧ bestM (turnB B) (K.map swK) = bestM B K := by
  have hg' := hg
  simp only [goodB, Bool.and_eq_true] at hg'
  obtain ⟨_, t2, t3⟩ := turn_skin (board_skin hg'.1)
  have hgt : goodB (turnB B) (K.map swK) = true := by simp only [goodB, Bool.and_eq_true]; exact ⟨turn_board hg'.1, by rw [swK_kinds]; exact hg'.2⟩
  refine ⟨hgt, ?_⟩
  rw [best_V hg, best_V hgt]
  have hw := whole_okR (turn_board hg'.1)
  rw [t2, t3] at hw
  rw [V_turn (w := bw B) (h := bh B) (leaf := leafM B K) (fun r hr => leafM_turn hr fun y hy x hx => gr_turn hy hx) _ hw]
  congr 1
  unfold rot wholeR
  rw [t2, t3]
  simp
/-- A board turned some times, and the kinds with it. -/
def turnsB (B : Brd) : Nat → Brd
  | 0 => B
  | n + 1 => turnB (turnsB B n)
theorem turns_skin {B : Brd} (h : skinB B = true) : ∀ n, skinB (turnsB B n) = true
  | 0 => h
  | n + 1 => (turn_skin (turns_skin h n)).1
def swN (K : List Kd) (n : Nat) : List Kd := if n % 2 = 0 then K else K.map swK
theorem swN_succ (K : List Kd) (n : Nat) : swN K (n + 1) = (swN K n).map swK := by
  unfold swN
  by_cases h : n % 2 = 0
  · rw [if_neg (by omega), if_pos h]
  · rw [if_pos (by omega), if_neg h, List.map_map]
    conv => lhs; rw [← List.map_id K]
    rfl
theorem best_turns {B : Brd} {K : List Kd} (hg : goodB B K = true) : ∀ n, goodB (turnsB B n) (swN K n) = true ∧ bestM (turnsB B n) (swN K n) = bestM B K
  | 0 => ⟨hg, rfl⟩
  | n + 1 => by
    obtain ⟨h1, h2⟩ := best_turns hg n
    obtain ⟨h3, h4⟩ := best_turn h1
    rw [swN_succ]
    exact ⟨h3, by rw [← h2, ← h4]; rfl⟩
end Go.Proofs.YtedbjmgchfgabaaDoor.Abs
namespace Go.Proofs.YtedbjmgchfgabaaDoor.Abs
set_option linter.unusedSimpArgs false
set_option linter.unusedVariables false
open Go.RowKit
open Go.Proofs.YtedbjmgchfgabaaDoor.Sim
open Go.Proofs
section
variable {P : Program} {nt : Nat} {ops : Array Oper} {t : Fm} {m : AM} {K : Fm → AM → Prop} {d T : Nat} {p : String} {af : Array Edge}
/-- The remainder, as it goes toward zero. -/
theorem Step.remT {x y : Operand} {X Y : TypeId} {a b : Int} (hx : evo t x = some (.int .i64 a)) (hy : evo t y = some (.int .i64 b)) (hb : 1 ≤ b) (hlt : Nat.blt d nt = true) (hK : K (put t d (.int .i64 (Int.tmod a b))) m) : Step P nt ops ⟨some d, .binOp .rem X x y Y, T, p, af, none⟩ t m K := by
  refine .ground rfl rfl hlt (by simp [Op.operands, hx, hy, g1, g0]) (fun h => by simp only [aquiet, evD_of hx, evD_of hy, aint, anil]; simpa [evD_of hx, evD_of hy] using h) ?_ (by simp [g1, g0]) hK
  simp [execOp, eqGuard, binOp, evD_of hx, evD_of hy, Op.intDiv, show ¬ b = 0 by omega, bind, Sem.bind, pure, Sim.still]
/-- A cell of a block set, whatever the block. -/
theorem Step.storeAt {x y : Operand} {ty : TypeId} {a o sz : Nat} {c : List Value} {kd : Kind} {v : Value} (hx : evo t x = some (.pointer (some ⟨a, o, none⟩))) (hy : evo t y = some v) (hb : m[a]? = some (some { cells := c, kind := kd, size := sz })) (hz : szB P ty = some 1) (hs : kd.solid = true) (ho : o < c.length) (hv : v.cells = #[v]) (hv1 : v.oneCell' = true)
    (hK : K t (m.set a (some { cells := c.set o v, kind := kd, size := sz }))) : Step P nt ops ⟨none, .store ty x y, T, p, af, none⟩ t m K := by
  refine .l0 rfl rfl rfl (by simp [Op.operands, hx, hy]) (loud_of_aloud0 (v := undef) (m' := m.set a (some { cells := c.set o v, kind := kd, size := sz })) rfl ?_ hK)
  have hsp : splice c o [v] = c.set o v := by
    unfold splice
    rw [List.set_eq_take_append_cons_drop]
    simp [ho]
  simp only [aloud, evD_of hx, evD_of hy, astore, hb, hz]
  rw [if_pos (by simp [hs, hv, hv1]; omega)]
  simp only [hv]
  simp [hsp]
end
def tq (k : Int) : Nat := ((Int.tmod k 4 + 4) % 4).toNat
theorem tm4 (k : Int) : -3 ≤ Int.tmod k 4 ∧ Int.tmod k 4 ≤ 3 := by
  rcases Int.le_total 0 k with h | h
  · rw [Int.tmod_eq_emod_of_nonneg h]; omega
  · obtain ⟨j, rfl⟩ : ∃ j : Int, k = -j := ⟨-k, by omega⟩
    rw [Int.neg_tmod, Int.tmod_eq_emod_of_nonneg (by omega)]; omega
theorem tq_odd (k : Int) : Int.tmod k 2 = 0 ↔ tq k % 2 = 0 := by
  unfold tq
  rcases Int.le_total 0 k with h | h
  · rw [Int.tmod_eq_emod_of_nonneg h, Int.tmod_eq_emod_of_nonneg h]; omega
  · obtain ⟨j, rfl⟩ : ∃ j : Int, k = -j := ⟨-k, by omega⟩
    rw [Int.neg_tmod, Int.neg_tmod, Int.tmod_eq_emod_of_nonneg (by omega), Int.tmod_eq_emod_of_nonneg (by omega)]; omega
theorem turn_pic (B : Brd) : turnB B = picB (fun y x => byte8 (rowOf B (bh B - 1 - x)) y) (bh B) (bw B) := rfl
set_option maxRecDepth 100000 in
theorem tcell_ok {m : AM} {a : Nat} {u : Value} {B : Brd} (hs : Strs m u B) (ha : Rd m a 0 u) (h48 : bh B ≤ 48) {x y : Nat} (hx : x < bh B) (hy : y < (rowOf B (bh B - 1 - x)).size) :
    ACall Tryd.prog 31 #[.int .i64 (x : Nat), .int .i64 (y : Nat), .pointer (some ⟨a, 0, none⟩)] m (Ret (.int .u8 ((byte8 (rowOf B (bh B - 1 - x)) y).toNat : Nat)) m) := by
  obtain ⟨A, O, sl, la, rd⟩ := hs
  have hxl : x < B.length := hx
  have h48' : B.length ≤ 48 := h48
  have rx := rd (B.length - 1 - x) (by omega)
  have e1 : (B.length : Int) - 1 = ((B.length - 1 : Nat) : Int) := by omega
  have e2 : ((B.length - 1 : Nat) : Int) - (x : Nat) = ((B.length - 1 - x : Nat) : Int) := by omega
  change y < (rowOf B (B.length - 1 - x)).size at hy
  rw [show bh B = B.length from rfl, ← byteAt_8]
  refine ACall.start Tryd.func31 rfl rfl ?_
  (repeat (first | (with_reducible refine AWo.cons ?_) | ((with_reducible refine Step.id ?_); first | ((with_reducible apply Step.move); exact rfl; exact rfl) | ((with_reducible apply Step.assign); exact rfl; exact rfl) | ((with_reducible apply Step.load); exact rfl; (focus (decide +kernel)); exact rfl; (focus (exact Rd.old _ (by assumption)))) | ((with_reducible apply Step.ix1); exact rfl; (focus (assumption)); exact rfl; (focus (decide +kernel)); exact rfl; (focus (omega))) | ((with_reducible apply Step.subE); exact rfl; exact rfl; (focus (assumption)); (focus (omega)); exact rfl) | ((with_reducible apply Step.strIx); exact rfl; exact rfl; exact un9; (focus (omega)); exact rfl) | ((with_reducible apply Step.len); exact rfl; (focus (assumption)); (focus (decide +kernel)); exact rfl)) | (with_reducible refine AWo.nil ?_) | ((with_reducible apply AW.seq)) | ((with_reducible apply Then.n)) | ((with_reducible apply AW.regL))))
  (refine AW.retD (l := [(5, _)]) (by repeat (first | exact trivial | (refine And.intro ⟨rfl, by (exact .int _ _)⟩ ?_))) ?_; (repeat (first | refine Then.r ?_ | refine InBlk.r ?_)))
  exact ⟨_, rfl, rfl, rfl⟩
set_option maxHeartbeats 4000000 in
set_option maxRecDepth 100000 in
theorem CloneS_ok {m : AM} {kv : Value} {B : Brd} (hk : Strs m kv B) (h0 : 0 < B.length) (hlen : B.length ≤ 1000) : ACall Tryd.prog 29 #[kv] m (More (fun M u => Strs M u B) m) := by
  obtain ⟨A, O, sl, la, rd⟩ := hk
  have sl' := sl
  have fin : ∀ (v : Value), v = kv → (∃ q n c, kv = .slice (some q) n c) → ACall Tryd.prog 29 #[kv] m (More (fun M u => Strs M u B) m) := fun v _ ⟨q, n, c, e⟩ => by
    subst e
    refine ACall.start Tryd.func29 rfl rfl ?_
    (repeat (first | (with_reducible refine AWo.cons ?_) | ((with_reducible refine Step.id ?_); first | ((with_reducible apply Step.move); exact rfl; exact rfl) | ((with_reducible apply Step.assign); exact rfl; exact rfl) | ((with_reducible apply Step.eqNil); exact rfl; exact rfl; exact un30; exact rfl) | ((with_reducible apply Step.buildS 0); exact rfl; exact rfl; exact (fun _ _ => bs30e); exact rfl; (focus (first | (simp only [List.nil_append, List.cons_append, List.set_cons_zero, List.set_cons_succ, iv_set, bv_set, iv_rep, bv_rep]; done) | (simp only [List.nil_append, List.cons_append, List.set_cons_zero, List.set_cons_succ, iv_set, bv_set, iv_rep, bv_rep]; rfl) | rfl)))) | (with_reducible refine AWo.nil ?_) | ((with_reducible apply AW.seq)) | ((with_reducible apply Then.n)) | ((with_reducible apply AW.regL)) | ((with_reducible apply AW.skip)) | ((with_reducible apply AW.condF); exact rfl; (focus (rfl)))))
    ((with_reducible apply Step.appRow (s := 1) (n := 0) (xl := B.length) (b0 := m.length) (c := [])); exact rfl; exact rfl; exact (.inr ⟨m.length + 0, .own, 1, by omega, rfl, by rw [get_app]; rfl, rfl, .inl rfl⟩); exact sl'; exact (fun h => (strs_rdl h rd).old _); exact el30; exact un30; (focus (simp [sv])); exact (sv_one B); exact rfl; (focus (omega)); exact rfl; (focus (simp)))
    intro u' M' hrow hl hkeep
    (repeat (first | (with_reducible refine AWo.cons ?_) | ((with_reducible refine Step.id ?_); ((with_reducible apply Step.assign); exact rfl; exact rfl)) | (with_reducible refine AWo.nil ?_) | ((with_reducible apply Then.n))))
    (refine AW.ret ?_; (repeat (first | refine Then.r ?_ | refine InBlk.r ?_)))
    obtain ⟨N, hN⟩ : ∃ N, M' = m ++ N := pre_keep ⟨_, rfl⟩ hl fun j hj => hkeep j (by rw [List.length_append]; omega) (fun n c e => by injection e with e _ _; injection e with e; injection e with e _ _; omega)
    exact ⟨_, rfl, N, hN, row_strs (b0 := m.length) (n := 0 + B.length) (by rw [List.nil_append] at hrow; exact hrow) (by omega) (by rw [hN, List.length_append]; omega)⟩
  rcases sl with ⟨rfl, h0'⟩ | ⟨c, hc, rfl⟩ | ⟨h0', o', k, rfl⟩
  · omega
  · exact fin _ rfl ⟨_, _, _, rfl⟩
  · omega
theorem ze30 : zeroB Tryd.prog 22 = some #[.slice none 0 0] := by kernel_rfl
set_option maxHeartbeats 8000000 in
set_option maxRecDepth 100000 in
theorem Turn_ok {m : AM} {sv : Value} {B : Brd} (k : Int) (hs : Strs m sv B) (hv : skinB B = true) : ACall Tryd.prog 7 #[sv, .int .i64 k] m (More (fun M w => ∃ u, w = .tuple #[u, .int .i64 0] ∧ Strs M u (turnsB B (tq k))) m) := by
  have hin := skin_in hv
  have hB : B.length ≤ 48 := hin.1.2
  have hB0 : 0 < B.length := hin.1.1
  have hv1 := fun T => Valid_ok (hs.old T)
  rw [hv] at hv1
  have hcl := fun T => CloneS_ok (hs.old T) hB0 (by omega)
  have h4 := tm4 k
  refine ACall.start Tryd.func7 rfl rfl ?_
  (repeat (first | (with_reducible refine AWo.cons ?_) | ((with_reducible refine Step.id ?_); first | ((with_reducible apply Step.move); exact rfl; exact rfl) | ((with_reducible apply Step.assign); exact rfl; exact rfl) | ((with_reducible apply Step.not); exact rfl; exact rfl) | ((with_reducible apply Step.callR fit); exact rfl; exact Tryd.func28; exact rfl; exact rfl; exact (hv1 _))) | (with_reducible refine AWo.nil ?_) | ((with_reducible apply AW.seq)) | ((with_reducible apply Then.n)) | ((with_reducible apply AW.regL)) | ((with_reducible apply AW.skip)) | ((with_reducible apply AW.condF); exact rfl; (focus (rfl)))))
  ((with_reducible apply Step.callX fit); exact rfl; exact Tryd.func29; exact rfl; exact rfl; exact (hcl _))
  rintro u M1 ⟨N1, hN1⟩ hu
  (repeat (first | (with_reducible refine AWo.cons ?_) | ((with_reducible refine Step.id ?_); first | ((with_reducible apply Step.move); exact rfl; exact rfl) | ((with_reducible apply Step.assign); exact rfl; exact rfl)) | (with_reducible refine AWo.nil ?_) | ((with_reducible apply AW.seq)) | ((with_reducible apply Then.n)) | ((with_reducible apply AW.regL))))
  ((with_reducible apply Step.remT); exact rfl; exact rfl; (focus (omega)); exact rfl)
  (repeat (first | (with_reducible refine AWo.cons ?_) | ((with_reducible refine Step.id ?_); first | ((with_reducible apply Step.move); exact rfl; exact rfl) | ((with_reducible apply Step.add); exact rfl; exact rfl; (focus (omega)); exact rfl) | ((with_reducible apply Step.rem); exact rfl; exact rfl; (focus (omega)); (focus (omega)); exact rfl)) | (with_reducible refine AWo.nil ?_) | ((with_reducible apply Then.n)) | ((with_reducible apply AW.block))))
  have e4 : (Int.tmod k 4 + 4) % 4 = ((tq k : Nat) : Int) := by unfold tq; omega
  rw [e4]
  have hq4 : tq k ≤ 3 := by omega
  generalize tq k = q at *
  refine AW.loopW (fun n t M => ∃ (i : Nat) (u : Value), n = q - i ∧ i ≤ q ∧ (∃ N, M = m ++ N) ∧ Strs M u (turnsB B i) ∧ t = fr [(6, u), (16, .int .i64 (q : Nat)), (17, .int .i64 (i : Nat))])
    ⟨_, _, (by repeat (first | exact trivial | (refine And.intro rfl ?_))), 0, u, rfl, Nat.zero_le _, ⟨N1, by rw [List.append_nil, hN1]; simp⟩, by rw [List.append_nil]; exact hu, rfl⟩ ?_
  rintro n t M ⟨i, u, rfl, hi, hp, hu, rfl⟩
  rcases Nat.lt_or_ge i q with hlt | hge
  · have sk := turns_skin hv i
    have hte : turnsB B (i + 1) = turnB (turnsB B i) := rfl
    generalize turnsB B i = C at *
    have hinC := skin_in sk
    have hl0 : 0 < C.length := hinC.1.1
    obtain ⟨A, O, sl, la, rd⟩ := id hu
    have r0 := rd 0 hl0
    obtain ⟨q0, c0, rfl⟩ := sl.shape
    have hT : ∀ M0, M0 = M ++ [some { cells := [.slice q0 C.length c0] }] → ACall Tryd.prog 30 #[.int .i64 (C.length : Nat), .int .i64 ((rowOf C 0).size : Nat), .func (.func 31) #[] #[.pointer (some ⟨M.length + 0, 0, none⟩)]] M0 (New (some { cells := picK (fun y x => byte8 (rowOf C (bh C - 1 - x)) y) (bh C) (bw C) (bw C) }) (bw C) M0) := fun M0 e => by
      have hl : M0.length = M.length + 1 := by rw [e]; simp
      refine turned_ok (w := bh C) (h := bw C) hinC.1 hinC.2 Tryd.func31 rfl (Low.func (c := [_]) (by intro v hv; simp only [List.mem_cons, List.not_mem_nil, or_false] at hv; subst hv; exact Low.ptr (by omega))) fun x y hx hy T => ?_
      have e2 : M0 ++ T = M ++ (some { cells := [.slice q0 C.length c0] } :: T) := by rw [e]; simp
      rw [e2]
      exact tcell_ok (hu.old _) (Rd.new rfl rfl) hinC.1.2 hx (by rw [(skinRow sk (show bh C - 1 - x < bh C by omega)).1]; exact hy)
    refine AW.rebase ?_
    (repeat (first | (with_reducible refine AWo.cons ?_) | ((with_reducible refine Step.id ?_); first | ((with_reducible apply Step.move); exact rfl; exact rfl) | ((with_reducible apply Step.assign); exact rfl; exact rfl) | ((with_reducible apply Step.load); exact rfl; (focus (decide +kernel)); exact rfl; (focus (first | exact Rd.new rfl rfl | exact Rd.old _ (by assumption)))) | ((with_reducible apply Step.ix1); exact rfl; (focus (assumption)); exact rfl; (focus (decide +kernel)); exact rfl; (focus (omega))) | ((with_reducible apply Step.lenS); exact rfl; exact un9; exact rfl) | ((with_reducible apply Step.add); exact rfl; exact rfl; (focus (omega)); exact rfl) | ((with_reducible apply Step.lss); exact rfl; exact rfl; exact rfl) | ((with_reducible apply Step.len); exact rfl; (focus (assumption)); (focus (decide +kernel)); exact rfl) | ((with_reducible apply Step.fn); exact rfl; exact rfl; exact rfl) | ((with_reducible apply Step.callN fit (k := 1)); exact rfl; exact rfl; exact Tryd.func30; exact rfl; exact rfl; exact (hT _ rfl); (focus (first | (simp only [List.nil_append, List.cons_append, List.set_cons_zero, List.set_cons_succ, iv_set, bv_set, iv_rep, bv_rep]; done) | (simp only [List.nil_append, List.cons_append, List.set_cons_zero, List.set_cons_succ, iv_set, bv_set, iv_rep, bv_rep]; rfl) | rfl))) | ((with_reducible apply Step.alloc 0); exact rfl; exact ze30; exact rfl; (focus (first | (simp only [List.nil_append, List.cons_append, List.set_cons_zero, List.set_cons_succ, iv_set, bv_set, iv_rep, bv_rep]; done) | (simp only [List.nil_append, List.cons_append, List.set_cons_zero, List.set_cons_succ, iv_set, bv_set, iv_rep, bv_rep]; rfl) | rfl))) | ((with_reducible apply Step.store (k := 0)); exact rfl; exact rfl; exact rfl; exact rfl; (focus (decide +kernel)); exact rfl; exact rfl; (focus (first | omega | (simp [iv, bv]; done) | (simp [iv, bv]; omega))); (focus (first | (simp only [List.nil_append, List.cons_append, List.set_cons_zero, List.set_cons_succ, iv_set, bv_set, iv_rep, bv_rep]; done) | (simp only [List.nil_append, List.cons_append, List.set_cons_zero, List.set_cons_succ, iv_set, bv_set, iv_rep, bv_rep]; rfl) | rfl)))) | (with_reducible refine AWo.nil ?_) | ((with_reducible apply AW.seq)) | ((with_reducible apply Then.n)) | ((with_reducible apply AW.regL)) | ((with_reducible apply AW.block)) | ((with_reducible apply AW.drawL fit); (focus (decide +kernel))) | ((with_reducible apply InBlk.n)) | ((with_reducible apply AW.skip)) | ((with_reducible apply AW.condT); exact rfl; (focus ((simp only [decide_eq_true_eq, decide_eq_false_iff_not, Bool.not_eq_true', Bool.not_eq_false', Bool.not_true, Bool.not_false]; first | assumption | omega))))))
    refine ⟨_, _, by omega, (by repeat (first | exact trivial | (refine And.intro rfl ?_))), i + 1, _, rfl, by omega, ?_, ?_, rfl⟩
    · obtain ⟨N, rfl⟩ := hp
      exact ⟨_, by rw [List.append_assoc]⟩
    · rw [hte, turn_pic]
      exact picB_strs (b := { cells := picK (fun y x => byte8 (rowOf C (bh C - 1 - x)) y) (bh C) (bw C) (bw C) }) (by rw [get_app]; rfl) rfl rfl
  · obtain rfl : i = q := by omega
    (repeat (first | (with_reducible refine AWo.cons ?_) | ((with_reducible refine Step.id ?_); first | ((with_reducible apply Step.move); exact rfl; exact rfl) | ((with_reducible apply Step.assign); exact rfl; exact rfl) | ((with_reducible apply Step.lss); exact rfl; exact rfl; exact rfl)) | (with_reducible refine AWo.nil ?_) | ((with_reducible apply AW.seq)) | ((with_reducible apply Then.n)) | ((with_reducible apply AW.regL)) | ((with_reducible apply AW.exit)) | ((with_reducible apply InBlk.hit)) | ((with_reducible apply Then.e)) | ((with_reducible apply AW.condF); exact rfl; (focus ((simp only [decide_eq_true_eq, decide_eq_false_iff_not, Bool.not_eq_true', Bool.not_eq_false', Bool.not_true, Bool.not_false]; first | assumption | omega))))))
    (refine AW.ret ?_; (repeat (first | refine Then.r ?_ | refine InBlk.r ?_)))
    obtain ⟨N, hN⟩ := hp
    exact ⟨_, rfl, N, hN, u, rfl, hu⟩
set_option maxRecDepth 100000 in
theorem Turn_no {m : AM} {sv : Value} {B : Brd} (k : Int) (hs : Strs m sv B) (hv : skinB B = false) : ACall Tryd.prog 7 #[sv, .int .i64 k] m (Ret (.tuple #[.slice none 0 0, .int .i64 2]) m) := by
  have hv1 := fun T => Valid_ok (hs.old T)
  rw [hv] at hv1
  refine ACall.start Tryd.func7 rfl rfl ?_
  (repeat (first | (with_reducible refine AWo.cons ?_) | ((with_reducible refine Step.id ?_); first | ((with_reducible apply Step.move); exact rfl; exact rfl) | ((with_reducible apply Step.assign); exact rfl; exact rfl) | ((with_reducible apply Step.not); exact rfl; exact rfl) | ((with_reducible apply Step.callR fit); exact rfl; exact Tryd.func28; exact rfl; exact rfl; exact (hv1 _))) | (with_reducible refine AWo.nil ?_) | ((with_reducible apply AW.seq)) | ((with_reducible apply Then.n)) | ((with_reducible apply AW.regL)) | ((with_reducible apply AW.condT); exact rfl; (focus (rfl)))))
  (refine AW.ret ?_; (repeat (first | refine Then.r ?_ | refine InBlk.r ?_)))
  exact ⟨_, rfl, rfl, (List.append_nil _).symm⟩
end Go.Proofs.YtedbjmgchfgabaaDoor.Abs
namespace Go.Proofs.YtedbjmgchfgabaaDoor.Abs
set_option linter.unusedSimpArgs false
set_option linter.unusedVariables false
open Go.RowKit
open Go.Proofs.YtedbjmgchfgabaaDoor.Sim
open Go.Proofs
/-- The first i kinds turned. -/
def swT (K : List Kd) (i : Nat) : List Kd := (K.take i).map swK ++ K.drop i
theorem swT_len (K : List Kd) (i : Nat) : (swT K i).length = K.length := by simp [swT]; omega
theorem swT_zero (K : List Kd) : swT K 0 = K := by simp [swT]
theorem swT_full (K : List Kd) : swT K K.length = K.map swK := by simp [swT]
theorem kvc_app (a b : List Kd) : kvc (a ++ b) = kvc a ++ kvc b := by simp [kvc]
theorem swT_step (K : List Kd) {i : Nat} (h : i < K.length) : ((kvc (swT K i)).set (i * 5) (.int .i64 (K.getD i default).h)).set (i * 5 + 1) (.int .i64 (K.getD i default).w) = kvc (swT K (i + 1)) := by
  have hl : (kvc ((K.take i).map swK)).length = i * 5 := by rw [kvc_len]; simp; omega
  have e : K.drop i = K.getD i default :: K.drop (i + 1) := by rw [List.drop_eq_getElem_cons h, getD_in _ _ h]
  have e2 : (K.take (i + 1)).map swK = (K.take i).map swK ++ [swK (K.getD i default)] := by rw [take_snoc K i default h]; simp
  unfold swT
  rw [e2, e, List.append_assoc, kvc_app, kvc_app ((K.take i).map swK), List.set_append_right _ _ (by omega), List.set_append_right _ _ (by omega), hl, Nat.sub_self, Nat.add_sub_cancel_left]
  rfl
theorem solid_of {kd : Kind} {sz s : Nat} (h : kd = .own ∨ kd = .grow ∧ sz = s) : kd.solid = true := by
  rcases h with rfl | ⟨rfl, _⟩ <;> rfl
theorem sz3i : szB Tryd.prog 3 = some 1 := by kernel_rfl
set_option maxHeartbeats 16000000 in
set_option maxRecDepth 100000 in
theorem TopTurned_ok {m : AM} {sv0 kv : Value} {B : Brd} {K : List Kd} (k : Int) (hs : Strs m sv0 B) (hk : Kds m kv K) (hkl : K.length ≤ 9223372036854775807) :
    ACall Tryd.prog 3 #[sv0, kv, .int .i64 k] m (Ret (.bool true) m) := by
  refine ACall.drop (.bool _) ?_
  have haw : ∀ M, ACall Tryd.prog 10 #[] M (Ret (.bool true) M) := fun M => awake_ok
  have hG := fun T => RGood_ok (hs.old T) (hk.old T)
  have hV := fun T => RValid_ok (hs.old T)
  cases hv : skinB B with
  | false =>
    have hg : goodB B K = false := by simp [goodB, boardB, hv]
    rw [hg] at hG
    rw [hv] at hV
    have hT := fun T => Turn_no k (hs.old T) hv
    refine ACall.start Tryd.func3 rfl rfl ?_
    (repeat (first | (with_reducible refine AWo.cons ?_) | ((with_reducible refine Step.id ?_); first | ((with_reducible apply Step.gdT); exact rfl; exact rfl; (focus (rfl))) | ((with_reducible apply Step.move); exact rfl; exact rfl) | ((with_reducible apply Step.assign); exact rfl; exact rfl) | ((with_reducible apply Step.eql); exact rfl; exact rfl; exact rfl) | ((with_reducible apply Step.eqlB); exact rfl; exact rfl; exact un4; exact rfl) | ((with_reducible apply Step.not); exact rfl; exact rfl) | ((with_reducible apply Step.extract); exact rfl; exact rfl; exact rfl) | ((with_reducible apply Step.pickT); exact rfl; exact rfl; exact rfl; exact rfl; (focus (rfl))) | ((with_reducible apply Step.callR fit); exact rfl; exact Tryd.func7; exact rfl; exact rfl; exact (hT _)) | ((with_reducible apply Step.callR fit); exact rfl; exact Tryd.func8; exact rfl; exact rfl; exact (hG _)) | ((with_reducible apply Step.callR fit); exact rfl; exact Tryd.func9; exact rfl; exact rfl; exact (hV _)) | ((with_reducible apply Step.callR fit); exact rfl; exact Tryd.func10; exact rfl; exact rfl; exact (haw _))) | (with_reducible refine AWo.nil ?_) | ((with_reducible apply AW.seq)) | ((with_reducible apply Then.n)) | ((with_reducible apply AW.regL)) | ((with_reducible apply AW.condT); exact rfl; (focus (rfl)))))
    (refine AW.ret ?_; (repeat (first | refine Then.r ?_ | refine InBlk.r ?_)))
    exact ⟨_, rfl, rfl, _, rfl⟩
  | true =>
    rw [hv] at hV
    have hT := fun T => Turn_ok k (hs.old T) hv
    have S0 : ∀ M, (∃ N, M = m ++ N) → Strs M sv0 B := fun M ⟨N, e⟩ => by rw [e]; exact hs.old _
    have K0 : ∀ M, (∃ N, M = m ++ N) → Kds M kv K := fun M ⟨N, e⟩ => by rw [e]; exact hk.old _
    refine ACall.start Tryd.func3 rfl rfl ?_
    (repeat (first | (with_reducible refine AWo.cons ?_) | ((with_reducible refine Step.id ?_); first | ((with_reducible apply Step.move); exact rfl; exact rfl) | ((with_reducible apply Step.assign); exact rfl; exact rfl)) | (with_reducible refine AWo.nil ?_) | ((with_reducible apply AW.seq)) | ((with_reducible apply Then.n)) | ((with_reducible apply AW.regL))))
    ((with_reducible apply Step.callX fit); exact rfl; exact Tryd.func7; exact rfl; exact rfl; exact (hT _))
    rintro _ M1 ⟨N1, hN1⟩ ⟨u, rfl, hu⟩
    have hm1 : ∃ N, M1 = m ++ N := ⟨_, by rw [hN1, List.append_assoc]⟩
    have hM1 : 0 < M1.length := by obtain ⟨A, O, sl, la, rd⟩ := hu; omega
    clear hN1 hT hG hV
    cases hg : goodB B K with
    | false =>
      have hG1 := fun T => RGood_ok ((S0 M1 hm1).old T) ((K0 M1 hm1).old T)
      rw [hg] at hG1
      have hV1 := fun T => RValid_ok ((S0 M1 hm1).old T)
      rw [hv] at hV1
      (repeat (first | (with_reducible refine AWo.cons ?_) | ((with_reducible refine Step.id ?_); first | ((with_reducible apply Step.gdT); exact rfl; exact rfl; (focus (rfl))) | ((with_reducible apply Step.move); exact rfl; exact rfl) | ((with_reducible apply Step.assign); exact rfl; exact rfl) | ((with_reducible apply Step.eql); exact rfl; exact rfl; exact rfl) | ((with_reducible apply Step.eqlB); exact rfl; exact rfl; exact un4; exact rfl) | ((with_reducible apply Step.not); exact rfl; exact rfl) | ((with_reducible apply Step.extract); exact rfl; exact rfl; exact rfl) | ((with_reducible apply Step.pickT); exact rfl; exact rfl; exact rfl; exact rfl; (focus (rfl))) | ((with_reducible apply Step.callR fit); exact rfl; exact Tryd.func8; exact rfl; exact rfl; exact (hG1 _)) | ((with_reducible apply Step.callR fit); exact rfl; exact Tryd.func9; exact rfl; exact rfl; exact (hV1 _)) | ((with_reducible apply Step.callR fit); exact rfl; exact Tryd.func10; exact rfl; exact rfl; exact (haw _))) | (with_reducible refine AWo.nil ?_) | ((with_reducible apply AW.seq)) | ((with_reducible apply Then.n)) | ((with_reducible apply AW.regL)) | ((with_reducible apply AW.condT); exact rfl; (focus (rfl)))))
      (refine AW.ret ?_; (repeat (first | refine Then.r ?_ | refine InBlk.r ?_)))
      obtain ⟨N, rfl⟩ := hm1
      exact ⟨_, rfl, rfl, _, by rw [List.append_assoc]⟩
    | true =>
      have hG1 := fun T => RGood_ok ((S0 M1 hm1).old T) ((K0 M1 hm1).old T)
      rw [hg] at hG1
      have hKb : kindsB K = true := by simp only [goodB, Bool.and_eq_true] at hg; exact hg.2
      have hk12 : K.length ≤ 12 := by simp only [kindsB, Bool.and_eq_true, decide_eq_true_eq] at hKb; exact hKb.1
      obtain ⟨bt1, bt2⟩ := best_turns hg (tq k)
      have hC := fun T => CloneK_ok ((K0 M1 hm1).old T) (by omega)
      (repeat (first | (with_reducible refine AWo.cons ?_) | ((with_reducible refine Step.id ?_); first | ((with_reducible apply Step.move); exact rfl; exact rfl) | ((with_reducible apply Step.assign); exact rfl; exact rfl) | ((with_reducible apply Step.neq); exact rfl; exact rfl; exact rfl) | ((with_reducible apply Step.not); exact rfl; exact rfl) | ((with_reducible apply Step.extract); exact rfl; exact rfl; exact rfl) | ((with_reducible apply Step.callR fit); exact rfl; exact Tryd.func8; exact rfl; exact rfl; exact (hG1 _))) | (with_reducible refine AWo.nil ?_) | ((with_reducible apply AW.seq)) | ((with_reducible apply Then.n)) | ((with_reducible apply AW.regL)) | ((with_reducible apply AW.skip)) | ((with_reducible apply AW.condF); exact rfl; (focus (rfl)))))
      ((with_reducible apply Step.callX fit); exact rfl; exact Tryd.func11; exact rfl; exact rfl; exact (hC _))
      rintro v2 M2 ⟨N2, hN2⟩ hrow
      rw [List.append_nil] at hN2 hrow
      clear hC hG1
      (repeat (first | (with_reducible refine AWo.cons ?_) | ((with_reducible refine Step.id ?_); first | ((with_reducible apply Step.move); exact rfl; exact rfl) | ((with_reducible apply Step.assign); exact rfl; exact rfl)) | (with_reducible refine AWo.nil ?_) | ((with_reducible apply AW.seq)) | ((with_reducible apply Then.n)) | ((with_reducible apply AW.regL))))
      ((with_reducible apply Step.remT); exact rfl; exact rfl; (focus (omega)); exact rfl)
      (repeat (first | (with_reducible refine AWo.cons ?_) | ((with_reducible refine Step.id ?_); ((with_reducible apply Step.neq); exact rfl; exact rfl; exact rfl)) | (with_reducible refine AWo.nil ?_) | ((with_reducible apply Then.n))))
      refine AW.join (fun t' m' => (∃ N, m' = M1 ++ N) ∧ Row m' M1.length 5 v2 (kvc (swN K (tq k))) K.length ∧
        All (fun i v => t' i = some v) [(0, sv0), (1, kv), (7, u), (9, v2)]) ?_ ?_
      · have hod := tq_odd k
        by_cases hod2 : Int.tmod k 2 = 0
        · have e : swN K (tq k) = K := by unfold swN; rw [if_pos (hod.1 hod2)]
          rw [e]
          (repeat (first | ((with_reducible apply Then.n)) | ((with_reducible apply AW.skip)) | ((with_reducible apply AW.condF); exact rfl; (focus ((simp only [decide_eq_true_eq, decide_eq_false_iff_not, Bool.not_eq_true', Bool.not_eq_false', Bool.not_true, Bool.not_false]; first | assumption | omega))))))
          exact ⟨⟨_, by rw [List.append_nil]; exact hN2⟩, by rw [List.append_nil]; exact hrow, (by repeat (first | exact trivial | (refine And.intro rfl ?_)))⟩
        · have e : swN K (tq k) = swT K K.length := by unfold swN; rw [if_neg (fun h => hod2 (hod.2 h)), swT_full]
          rw [e]
          have hsl : ∃ a, Sl v2 a 0 K.length := by obtain ⟨a, h1, _⟩ := Row.sl hrow (by rw [hN2, List.length_append]; omega); exact ⟨a, h1⟩
          obtain ⟨a, hsl⟩ := hsl
          (repeat (first | (with_reducible refine AWo.cons ?_) | ((with_reducible refine Step.id ?_); first | ((with_reducible apply Step.move); exact rfl; exact rfl) | ((with_reducible apply Step.len); exact rfl; (focus (assumption)); (focus (decide +kernel)); exact rfl)) | (with_reducible refine AWo.nil ?_) | ((with_reducible apply AW.seq)) | ((with_reducible apply Then.n)) | ((with_reducible apply AW.regL)) | ((with_reducible apply AW.block)) | ((with_reducible apply AW.condT); exact rfl; (focus ((simp only [decide_eq_true_eq, decide_eq_false_iff_not, Bool.not_eq_true', Bool.not_eq_false', Bool.not_true, Bool.not_false]; first | assumption | omega))))))
          refine AW.loopW (fun n t M => ∃ i : Nat, n = K.length - i ∧ i ≤ K.length ∧ (∃ N, M = M1 ++ N) ∧ Row M M1.length 5 v2 (kvc (swT K i)) K.length ∧
            t = fr [(0, sv0), (1, kv), (7, u), (9, v2), (40, .int .i64 (K.length : Nat)), (41, .int .i64 (i : Nat))])
            ⟨_, _, (by repeat (first | exact trivial | (refine And.intro rfl ?_))), 0, rfl, Nat.zero_le _, ⟨N2, by rw [List.append_nil]; exact hN2⟩, by rw [List.append_nil, swT_zero]; exact hrow, rfl⟩ ?_
          rintro n t M ⟨i, rfl, hi, hp, hr, rfl⟩
          rcases Nat.lt_or_ge i K.length with hlt | hge
          · have hpm : ∃ N, M = m ++ N := by obtain ⟨N, e⟩ := hm1; obtain ⟨N', e'⟩ := hp; exact ⟨_, by rw [e', e, List.append_assoc]⟩
            obtain ⟨A, O, sl, la, rd⟩ := K0 M hpm
            have rw0 : Rd M A (O + i * 5) (.int .i64 (K.getD i default).w) := (rd i hlt).at_ 0 rfl
            have rh : Rd M A (O + i * 5 + 1) (.int .i64 (K.getD i default).h) := (rd i hlt).at_ 1 rfl
            have hst := swT_step K hlt
            have hlt5 : i * 5 + 1 < (kvc (swT K i)).length := by rw [kvc_len, swT_len]; omega
            rcases hr with ⟨rfl, _, h0⟩ | ⟨a', kd, sz, ha', rfl, hget, hlen, hkd⟩
            · omega
            have hM' : a' < M.length := (List.getElem?_eq_some_iff.1 hget).1
            clear hsl
            have hsl : Sl (.slice (some ⟨a', 0, none⟩) K.length K.length) a' 0 K.length := Sl.mk (Nat.le_refl _)
            have hget2 : ∀ c : List Value, (M.set a' (some { cells := c, kind := kd, size := sz }))[a']? = some (some { cells := c, kind := kd, size := sz }) := fun c => by rw [List.getElem?_set_self hM']
            refine AW.rebase ?_
            rw [List.append_nil]
            (repeat (first | (with_reducible refine AWo.cons ?_) | ((with_reducible refine Step.id ?_); first | ((with_reducible apply Step.move); exact rfl; exact rfl) | ((with_reducible apply Step.assign); exact rfl; exact rfl) | ((with_reducible apply Step.load); exact rfl; (focus (decide +kernel)); exact rfl; (focus (assumption))) | ((with_reducible apply Step.ixz (s := 5)); exact rfl; (focus (assumption)); exact rfl; (focus (decide +kernel)); exact rfl; (focus (omega))) | ((with_reducible apply Step.ix (s := 5)); exact rfl; (focus (assumption)); exact rfl; (focus (decide +kernel)); exact rfl; (focus (omega))) | ((with_reducible apply Step.field0); exact rfl; (focus (decide +kernel)); exact rfl) | ((with_reducible apply Step.field (k := 1)); exact rfl; (focus (decide +kernel)); exact rfl) | ((with_reducible apply Step.lss); exact rfl; exact rfl; exact rfl)) | (with_reducible refine AWo.nil ?_) | ((with_reducible apply AW.seq)) | ((with_reducible apply Then.n)) | ((with_reducible apply AW.regL)) | ((with_reducible apply AW.block)) | ((with_reducible apply AW.drawL fit); (focus (decide +kernel))) | ((with_reducible apply AW.skip)) | ((with_reducible apply AW.condT); exact rfl; (focus ((simp only [decide_eq_true_eq, decide_eq_false_iff_not, Bool.not_eq_true', Bool.not_eq_false', Bool.not_true, Bool.not_false]; first | assumption | omega))))))
            ((with_reducible apply Step.storeAt); exact rfl; exact rfl; exact hget; exact sz3i; exact (solid_of hkd); (focus (omega)); exact rfl; exact rfl)
            (repeat (first | (with_reducible refine AWo.cons ?_) | ((with_reducible refine Step.id ?_); first | ((with_reducible apply Step.ixz (s := 5)); exact rfl; (focus (assumption)); exact rfl; (focus (decide +kernel)); exact rfl; (focus (omega))) | ((with_reducible apply Step.field (k := 1)); exact rfl; (focus (decide +kernel)); exact rfl))))
            ((with_reducible apply Step.storeAt); exact rfl; exact rfl; exact (hget2 _); exact sz3i; exact (solid_of hkd); (focus (rw [List.length_set]; omega)); exact rfl; exact rfl)
            rw [List.set_set, hst]
            (repeat (first | (with_reducible refine AWo.cons ?_) | ((with_reducible refine Step.id ?_); first | ((with_reducible apply Step.move); exact rfl; exact rfl) | ((with_reducible apply Step.add); exact rfl; exact rfl; (focus (omega)); exact rfl)) | (with_reducible refine AWo.nil ?_) | ((with_reducible apply Then.n)) | ((with_reducible apply AW.regL)) | ((with_reducible apply InBlk.n))))
            refine ⟨_, _, by omega, (by repeat (first | exact trivial | (refine And.intro rfl ?_))), i + 1, rfl, by omega, ?_, .inr ⟨a', kd, sz, ha', rfl, hget2 _, by rw [kvc_len, swT_len], hkd⟩, rfl⟩
            obtain ⟨N, rfl⟩ := hp
            exact ⟨_, List.set_append_right _ _ ha'⟩
          · obtain rfl : i = K.length := by omega
            (repeat (first | (with_reducible refine AWo.cons ?_) | ((with_reducible refine Step.id ?_); ((with_reducible apply Step.lss); exact rfl; exact rfl; exact rfl)) | (with_reducible refine AWo.nil ?_) | ((with_reducible apply AW.seq)) | ((with_reducible apply Then.n)) | ((with_reducible apply AW.regL)) | ((with_reducible apply AW.exit)) | ((with_reducible apply InBlk.hit)) | ((with_reducible apply Then.e)) | ((with_reducible apply AW.condF); exact rfl; (focus ((simp only [decide_eq_true_eq, decide_eq_false_iff_not, Bool.not_eq_true', Bool.not_eq_false', Bool.not_true, Bool.not_false]; first | assumption | omega))))))
            exact ⟨hp, hr, (by repeat (first | exact trivial | (refine And.intro rfl ?_)))⟩
      rintro t' M3 ⟨⟨N3, hN3⟩, hrow3, hsl⟩
      refine AW.weak (fr_all hsl) ?_
      clear hsl
      have hm3 : ∃ N, M3 = m ++ N := by obtain ⟨N, e⟩ := hm1; exact ⟨_, by rw [hN3, e, List.append_assoc]⟩
      have hu3 : Strs M3 u (turnsB B (tq k)) := by rw [hN3]; exact hu.old _
      have hk3 : Kds M3 v2 (swN K (tq k)) := row_kds hrow3 (by unfold swN; split <;> simp) (by rw [hN3, List.length_append]; omega)
      have el : (swN K (tq k)).length = K.length := by unfold swN; split <;> simp
      have et1 : K.take 14 = K := List.take_of_length_le (by omega)
      have et2 : (swN K (tq k)).take 14 = swN K (tq k) := List.take_of_length_le (by omega)
      have O1 := fun T => of_ok ((K0 M3 hm3).old T) hkl
      have O2 := fun T => of_ok (hk3.old T) (by omega)
      rw [et1] at O1
      rw [et2] at O2
      have B1 := fun T => Best_ok (m := M3 ++ (gb (kvc K) 5 :: T)) ((S0 M3 hm3).old _) (kds_at (k := 0) (l := K) rfl) hg
      have B2 := fun T => Best_ok (m := M3 ++ (gb (kvc K) 5 :: gb (kvc (swN K (tq k))) 5 :: T)) (hu3.old _) (kds_at (k := 1) (l := swN K (tq k)) rfl) bt1
      rw [bt2] at B2
      generalize bestM B K = b at *
      generalize swN K (tq k) = K' at *
      refine AW.rebase ?_
      (repeat (first | (with_reducible refine AWo.cons ?_) | ((with_reducible refine Step.id ?_); first | ((with_reducible apply Step.gdT); exact rfl; exact rfl; (focus (first | rfl | (simp; done)))) | ((with_reducible apply Step.move); exact rfl; exact rfl) | ((with_reducible apply Step.assign); exact rfl; exact rfl) | ((with_reducible apply Step.eql); exact rfl; exact rfl; exact rfl) | ((with_reducible apply Step.extract); exact rfl; exact rfl; exact rfl) | ((with_reducible apply Step.pickT); exact rfl; exact rfl; exact rfl; exact rfl; (focus (first | rfl | (simp; done)))) | ((with_reducible apply Step.callG fit (k := 0)); exact rfl; exact rfl; exact Tryd.func13; exact rfl; exact rfl; exact (O1 _); (focus (first | (simp only [List.nil_append, List.cons_append, List.set_cons_zero, List.set_cons_succ, iv_set, bv_set, iv_rep, bv_rep]; done) | (simp only [List.nil_append, List.cons_append, List.set_cons_zero, List.set_cons_succ, iv_set, bv_set, iv_rep, bv_rep]; rfl) | rfl))) | ((with_reducible apply Step.callG fit (k := 1)); exact rfl; exact rfl; exact Tryd.func13; exact rfl; exact rfl; exact (O2 _); (focus (first | (simp only [List.nil_append, List.cons_append, List.set_cons_zero, List.set_cons_succ, iv_set, bv_set, iv_rep, bv_rep]; done) | (simp only [List.nil_append, List.cons_append, List.set_cons_zero, List.set_cons_succ, iv_set, bv_set, iv_rep, bv_rep]; rfl) | rfl))) | ((with_reducible apply Step.callR fit); exact rfl; exact Tryd.func12; exact rfl; exact rfl; exact (B1 _)) | ((with_reducible apply Step.callR fit); exact rfl; exact Tryd.func12; exact rfl; exact rfl; exact (B2 _)) | ((with_reducible apply Step.callR fit); exact rfl; exact Tryd.func10; exact rfl; exact rfl; exact (haw _))) | (with_reducible refine AWo.nil ?_) | ((with_reducible apply AW.seq)) | ((with_reducible apply Then.n)) | ((with_reducible apply AW.regL))))
      (refine AW.ret ?_; (repeat (first | refine Then.r ?_ | refine InBlk.r ?_)))
      obtain ⟨N, hN⟩ := hm3
      exact ⟨_, rfl, rfl, _, by rw [hN, List.append_assoc]⟩
end Go.Proofs.YtedbjmgchfgabaaDoor.Abs
