import Derived.Test.YtmomjannlnafcaaAbs3
import Derived.IntWalk
namespace Go.Proofs.Ytmomjannlnafcaa.Abs
set_option linter.unusedSimpArgs false
set_option linter.unusedVariables false
open Go.RowKit
open Go.Proofs.Ytmomjannlnafcaa.Sim
def evD (t : Fm) : Operand → Value := fun x => (evo t x).getD undef
theorem evD_of {t : Fm} {x : Operand} {v : Value} (h : evo t x = some v) : evD t x = v := by simp [evD, h]
theorem kn_of {t : Fm} {o : Oper} (h : ∀ x ∈ o.op.operands.toList, ∃ v, evo t x = some v) : Kn t o (evD t) := fun x hx => by
  obtain ⟨v, hv⟩ := h x (by simpa using hx)
  rw [hv, evD_of hv]
/-- A cell that is known. -/
def Rd (m : AM) (i o : Nat) (v : Value) : Prop := ∃ b, m[i]? = some (some b) ∧ b.cells[o]? = some v
/-- A slice of n elements whose first cell is o of block a; it may be nil if it is empty. -/
def Sl (v : Value) (a o n : Nat) : Prop := (v = .slice none 0 0 ∧ n = 0) ∨ ∃ c, n ≤ c ∧ v = .slice (some ⟨a, o, none⟩) n c
def slB (P : Program) (T : TypeId) : Bool := match P.underlying T with
  | some (.slice _) => true
  | _ => false
def elB (P : Program) (T : TypeId) : Option Nat := match P.underlying T with
  | some (.slice e) => szB P e
  | _ => none
def arB (P : Program) (T : TypeId) : Option (Nat × Nat) := match P.underlying T with
  | some (.array n e) => (szB P e).map fun s => (n, s)
  | _ => none
def foB (P : Program) (T : TypeId) (f : Nat) : Option Nat := match P.underlying T with
  | some (.struct fs) => match fs[f]? with
    | some fd => match szB P fd.type with
      | some (_ + 1) => some fd.offset
      | _ => none
    | none => none
  | _ => none
section
variable {P : Program} {nt : Nat} {ops : Array Oper} {t : Fm} {m : AM} {K : Fm → AM → Prop} {d T : Nat} {p : String} {af : Array Edge}
theorem Step.q {o : Oper} {v : Value} (hd : o.dst = some d) (hg : o.guard = none) (hlt : Nat.blt d nt = true) (hk : ∀ x ∈ o.op.operands.toList, ∃ v, evo t x = some v) (hq : aquiet P o (evD t) m = some v) (hK : K (put t d v) m) : Step P nt ops o t m K := by
  refine ⟨fun e he => ?_, ?_⟩
  · rw [hd] at he; injection he with he; subst he; simpa using hlt
  · rw [hg]
    exact ⟨evD t, kn_of hk, .inl ⟨v, hq, by rw [hd]; exact hK⟩⟩
theorem Step.l {o : Oper} (hd : o.dst = some d) (hg : o.guard = none) (hlt : Nat.blt d nt = true) (hs : stillB P o.op = false) (hk : ∀ x ∈ o.op.operands.toList, ∃ v, evo t x = some v) (hl : Loud P o (evD t) m fun v m' => K (put t d v) m') : Step P nt ops o t m K := by
  refine ⟨fun e he => ?_, ?_⟩
  · rw [hd] at he; injection he with he; subst he; simpa using hlt
  · rw [hg]
    exact ⟨evD t, kn_of hk, .inr ⟨hs, by rw [hd]; exact hl⟩⟩
theorem Step.l0 {o : Oper} (hd : o.dst = none) (hg : o.guard = none) (hs : stillB P o.op = false) (hk : ∀ x ∈ o.op.operands.toList, ∃ v, evo t x = some v) (hl : Loud P o (evD t) m fun _ m' => K t m') : Step P nt ops o t m K := by
  refine ⟨fun e he => (by rw [hd] at he; cases he), ?_⟩
  rw [hg]
  exact ⟨evD t, kn_of hk, .inr ⟨hs, by rw [hd]; exact hl⟩⟩
/-! ### guards -/
theorem Step.gd {o : Op} {dd : Option Tmp} {j : Nat} {b q : Bool} (hd : ∀ d, dd = some d → d < nt) (hv : gval ops t j = some (.bool q)) (h1 : q = b → Step P nt ops ⟨dd, o, T, p, af, none⟩ t m K) (h2 : q = !b → K (putO t dd undef) m) : Step P nt ops ⟨dd, o, T, p, af, some (j, b)⟩ t m K := by
  refine ⟨hd, .bool q, hv, ?_⟩
  by_cases h : q = b
  · subst h
    rw [if_pos (by simp [wantB])]
    have := (h1 rfl).2
    exact this
  · rw [if_neg (by simp [wantB, h])]
    exact h2 (by cases q <;> cases b <;> simp_all)
theorem Step.gu {o : Op} {dd : Option Tmp} {j : Nat} {b : Bool} (hd : ∀ d, dd = some d → d < nt) (hv : gval ops t j = some undef) (h2 : K (putO t dd undef) m) : Step P nt ops ⟨dd, o, T, p, af, some (j, b)⟩ t m K := by
  refine ⟨hd, undef, hv, ?_⟩
  rw [if_neg (by simp [wantB, undef])]
  exact h2
/-! ### quiet operations -/
theorem Step.move {x : Operand} {v : Value} (hx : evo t x = some v) (hlt : Nat.blt d nt = true) (hK : K (put t d v) m) : Step P nt ops ⟨some d, .move x, T, p, af, none⟩ t m K :=
  .q rfl rfl hlt (by simp [Op.operands, hx]) (by simp [aquiet, evD_of hx]) hK
theorem Step.assign {x : Operand} {v : Value} (hx : evo t x = some v) (hlt : Nat.blt d nt = true) (hK : K (put t d v) m) : Step P nt ops ⟨some d, .assign x, T, p, af, none⟩ t m K :=
  .q rfl rfl hlt (by simp [Op.operands, hx]) (by simp [aquiet, evD_of hx]) hK
theorem Step.pick {c x y : Operand} {q : Bool} {v u : Value} (hc : evo t c = some (.bool q)) (hx : evo t x = some v) (hy : evo t y = some u) (hlt : Nat.blt d nt = true) (h1 : q = true → K (put t d v) m) (h2 : q = false → K (put t d u) m) : Step P nt ops ⟨some d, .pick c x y, T, p, af, none⟩ t m K := by
  refine .q rfl rfl hlt (by simp [Op.operands, hc, hx, hy]) (v := if q then v else u) (by simp [aquiet, evD_of hc, evD_of hx, evD_of hy]) ?_
  cases q
  · exact h2 rfl
  · exact h1 rfl
theorem Step.load {x : Operand} {ty i o : Nat} {v : Value} (hx : evo t x = some (.pointer (some ⟨i, o, none⟩))) (hg : aggB P ty = some false) (hlt : Nat.blt d nt = true) (hr : Rd m i o v) (hK : K (put t d v) m) : Step P nt ops ⟨some d, .load ty x, T, p, af, none⟩ t m K := by
  obtain ⟨b, h1, h2⟩ := hr
  exact .q rfl rfl hlt (by simp [Op.operands, hx]) (by simp [aquiet, evD_of hx, aload, hg, h1, h2]) hK
/-- A whole struct or array. -/
theorem Step.loads {x : Operand} {ty i o n : Nat} {b : Blk} {c : List Value} (hx : evo t x = some (.pointer (some ⟨i, o, none⟩))) (hg : aggB P ty = some true) (hn : szB P ty = some n) (hlt : Nat.blt d nt = true) (h1 : m[i]? = some (some b)) (h2 : (b.cells.drop o).take n = c) (h3 : c.length = n) (hn1 : 1 ≤ n) (hK : K (put t d (.agg c.toArray)) m) :
    Step P nt ops ⟨some d, .load ty x, T, p, af, none⟩ t m K := by
  have h0 : o + n ≤ b.cells.length := by
    rw [← h2] at h3
    simp at h3
    omega
  exact .q rfl rfl hlt (by simp [Op.operands, hx]) (by simp [aquiet, evD_of hx, aload, hg, hn, h1, h0, h2]) hK
theorem Step.field {x : Operand} {s f i o k : Nat} (hx : evo t x = some (.pointer (some ⟨i, o, none⟩))) (hf : foB P s f = some k) (hlt : Nat.blt d nt = true) (hK : K (put t d (.pointer (some ⟨i, o + k, none⟩))) m) : Step P nt ops ⟨some d, .fieldAddr s x f, T, p, af, none⟩ t m K := by
  refine .q rfl rfl hlt (by simp [Op.operands, hx]) ?_ hK
  unfold foB at hf
  simp only [aquiet, evD_of hx, afield]
  split at hf
  · rename_i fs hu
    rw [hu]
    simp only
    split at hf
    · rename_i fd hfd
      rw [hfd]
      simp only
      split at hf
      · rename_i q hq
        rw [hq]
        injection hf with hf
        simp [hf]
      · cases hf
    · cases hf
  · cases hf
/-- The first field: it lies where the struct lies. -/
theorem Step.field0 {x : Operand} {s f i o : Nat} (hx : evo t x = some (.pointer (some ⟨i, o, none⟩))) (hf : foB P s f = some 0) (hlt : Nat.blt d nt = true) (hK : K (put t d (.pointer (some ⟨i, o, none⟩))) m) : Step P nt ops ⟨some d, .fieldAddr s x f, T, p, af, none⟩ t m K :=
  .field hx hf hlt hK
theorem Step.ix {x y : Operand} {s a o n k X : Nat} {kk : IntKind} {v : Value} (hx : evo t x = some v) (hs : Sl v a o n) (hy : evo t y = some (.int kk ((k : Nat) : Int))) (he : elB P X = some s) (hlt : Nat.blt d nt = true) (hk : k < n) (hK : K (put t d (.pointer (some ⟨a, o + k * s, none⟩))) m) : Step P nt ops ⟨some d, .indexAddr X x y, T, p, af, none⟩ t m K := by
  refine .q rfl rfl hlt (by simp [Op.operands, hx, hy]) ?_ hK
  rcases hs with ⟨_, hn⟩ | ⟨c, hc, rfl⟩
  · omega
  · unfold elB at he
    split at he
    · rename_i e hu
      simp only [aquiet, evD_of hx, evD_of hy, aindex, hu, he]
      rw [if_pos (by omega)]
      simp
    · cases he
theorem Step.ix1 {x y : Operand} {a o n k X : Nat} {kk : IntKind} {v : Value} (hx : evo t x = some v) (hs : Sl v a o n) (hy : evo t y = some (.int kk ((k : Nat) : Int))) (he : elB P X = some 1) (hlt : Nat.blt d nt = true) (hk : k < n) (hK : K (put t d (.pointer (some ⟨a, o + k, none⟩))) m) : Step P nt ops ⟨some d, .indexAddr X x y, T, p, af, none⟩ t m K :=
  .ix hx hs hy he hlt hk (by simpa using hK)
theorem Step.ixZ {x y : Operand} {s a o n X : Nat} {i : Int} {kk : IntKind} {v : Value} (k : Nat) (hx : evo t x = some v) (hs : Sl v a o n) (hy : evo t y = some (.int kk i)) (hi : i = (k : Int)) (he : elB P X = some s) (hlt : Nat.blt d nt = true) (hk : k < n) (hK : K (put t d (.pointer (some ⟨a, o + k * s, none⟩))) m) : Step P nt ops ⟨some d, .indexAddr X x y, T, p, af, none⟩ t m K :=
  .ix hx hs (by rw [← hi]; exact hy) he hlt hk hK
/-- An element of an array behind a pointer. -/
theorem Step.ixA {x y : Operand} {s i o n k X : Nat} {kk : IntKind} (hx : evo t x = some (.pointer (some ⟨i, o, none⟩))) (hy : evo t y = some (.int kk ((k : Nat) : Int))) (he : arB P X = some (n, s)) (hlt : Nat.blt d nt = true) (hk : k < n) (hK : K (put t d (.pointer (some ⟨i, o + k * s, none⟩))) m) : Step P nt ops ⟨some d, .indexAddr X x y, T, p, af, none⟩ t m K := by
  refine .q rfl rfl hlt (by simp [Op.operands, hx, hy]) ?_ hK
  unfold arB at he
  split at he
  · rename_i n' e hu
    cases hz : szB P e with
    | none => simp [hz] at he
    | some s' =>
      simp only [hz, Option.map_some, Option.some.injEq, Prod.mk.injEq] at he
      obtain ⟨rfl, rfl⟩ := he
      simp only [aquiet, evD_of hx, evD_of hy, aindex, hu, hz]
      rw [if_pos (by omega)]
      simp
  · cases he
theorem Step.extract {x : Operand} {vs : Array Value} {i : Nat} {v : Value} (hx : evo t x = some (.tuple vs)) (hi : vs.toList[i]? = some v) (hlt : Nat.blt d nt = true) (hK : K (put t d v) m) : Step P nt ops ⟨some d, .extract x i, T, p, af, none⟩ t m K := by
  have hi' : vs[i]? = some v := by simpa using hi
  exact .q rfl rfl hlt (by simp [Op.operands, hx]) (by simp [aquiet, evD_of hx, hi']) hK
theorem Step.nilp {x : Operand} {i o : Nat} (hx : evo t x = some (.pointer (some ⟨i, o, none⟩))) (hlt : Nat.blt d nt = true) (hK : K (put t d (.pointer (some ⟨i, o, none⟩))) m) : Step P nt ops ⟨some d, .nilCheck x, T, p, af, none⟩ t m K :=
  .q rfl rfl hlt (by simp [Op.operands, hx]) (by simp [aquiet, evD_of hx, anilCheck]) hK
theorem Step.nilf {x : Operand} {f : FuncId} {a b : Array Value} (hx : evo t x = some (.func (.func f) a b)) (hlt : Nat.blt d nt = true) (hK : K (put t d (.func (.func f) a b)) m) : Step P nt ops ⟨some d, .nilCheck x, T, p, af, none⟩ t m K :=
  .q rfl rfl hlt (by simp [Op.operands, hx]) (by simp [aquiet, evD_of hx, anilCheck]) hK
def evL (t : Fm) : List Operand → Option (List Value)
  | [] => some []
  | x :: l => match evo t x, evL t l with
    | some v, some k => some (v :: k)
    | _, _ => none
theorem evL_of {t : Fm} : ∀ {l : List Operand} {vs : List Value}, evL t l = some vs → (∀ x ∈ l, ∃ v, evo t x = some v) ∧ l.map (evD t) = vs
  | [], vs, h => by simp [evL] at h; subst h; simp
  | x :: l, vs, h => by
    simp only [evL] at h
    split at h
    · rename_i v k h1 h2
      injection h with h; subst h
      obtain ⟨k1, k2⟩ := evL_of h2
      exact ⟨fun y hy => by
        rcases List.mem_cons.1 hy with rfl | hy
        · exact ⟨v, h1⟩
        · exact k1 y hy, by simp [evD_of h1, k2]⟩
    · cases h
theorem Step.fn {fn : Fn} {f c : Array Operand} {vf vc : List Value} (hf : evL t f.toList = some vf) (hc : evL t c.toList = some vc) (hlt : Nat.blt d nt = true) (hK : K (put t d (.func fn vf.toArray vc.toArray)) m) : Step P nt ops ⟨some d, .makeFunc fn f c, T, p, af, none⟩ t m K := by
  obtain ⟨f1, f2⟩ := evL_of hf
  obtain ⟨c1, c2⟩ := evL_of hc
  refine .q rfl rfl hlt (fun x hx => ?_) ?_ hK
  · simp only [Op.operands, Array.toList_append, List.mem_append] at hx
    exact hx.elim (f1 x) (c1 x)
  · simp only [aquiet, Option.some.injEq, Value.func.injEq, true_and]
    refine ⟨?_, ?_⟩
    · rw [← f2]; apply Array.ext'; simp
    · rw [← c2]; apply Array.ext'; simp
theorem Step.bin {op : BinOp} {X Y : TypeId} {x y : Operand} {u w v : Value} (hx : evo t x = some u) (hy : evo t y = some w) (hv : aint op u w = some v) (hlt : Nat.blt d nt = true) (hK : K (put t d v) m) : Step P nt ops ⟨some d, .binOp op X x y Y, T, p, af, none⟩ t m K :=
  .q rfl rfl hlt (by simp [Op.operands, hx, hy]) (by simp [aquiet, evD_of hx, evD_of hy, hv]) hK
section ints
variable {X Y : TypeId} {x y : Operand} {a b : Int} {k : IntKind}
def in64 (n : Int) : Prop := -9223372036854775808 ≤ n ∧ n ≤ 9223372036854775807
theorem Step.add (hx : evo t x = some (.int .i64 a)) (hy : evo t y = some (.int .i64 b)) (hr : -9223372036854775808 ≤ a + b ∧ a + b ≤ 9223372036854775807) (hlt : Nat.blt d nt = true) (hK : K (put t d (.int .i64 (a + b))) m) : Step P nt ops ⟨some d, .binOp .add X x y Y, T, p, af, none⟩ t m K :=
  .bin hx hy (by simp [aint, IntWalk.i64_in _ hr]) hlt hK
theorem Step.sub (hx : evo t x = some (.int .i64 a)) (hy : evo t y = some (.int .i64 b)) (hr : -9223372036854775808 ≤ a - b ∧ a - b ≤ 9223372036854775807) (hlt : Nat.blt d nt = true) (hK : K (put t d (.int .i64 (a - b))) m) : Step P nt ops ⟨some d, .binOp .sub X x y Y, T, p, af, none⟩ t m K :=
  .bin hx hy (by simp [aint, IntWalk.i64_in _ hr]) hlt hK
theorem Step.mul (hx : evo t x = some (.int .i64 a)) (hy : evo t y = some (.int .i64 b)) (hr : -9223372036854775808 ≤ a * b ∧ a * b ≤ 9223372036854775807) (hlt : Nat.blt d nt = true) (hK : K (put t d (.int .i64 (a * b))) m) : Step P nt ops ⟨some d, .binOp .mul X x y Y, T, p, af, none⟩ t m K :=
  .bin hx hy (by simp [aint, IntWalk.i64_in _ hr]) hlt hK
theorem Step.lss (hx : evo t x = some (.int k a)) (hy : evo t y = some (.int k b)) (hlt : Nat.blt d nt = true) (hK : K (put t d (.bool (decide (a < b)))) m) : Step P nt ops ⟨some d, .binOp .lss X x y Y, T, p, af, none⟩ t m K :=
  .bin hx hy (by simp [aint]) hlt hK
theorem Step.leq (hx : evo t x = some (.int k a)) (hy : evo t y = some (.int k b)) (hlt : Nat.blt d nt = true) (hK : K (put t d (.bool (decide (a ≤ b)))) m) : Step P nt ops ⟨some d, .binOp .leq X x y Y, T, p, af, none⟩ t m K :=
  .bin hx hy (by simp [aint]) hlt hK
theorem Step.gtr (hx : evo t x = some (.int k a)) (hy : evo t y = some (.int k b)) (hlt : Nat.blt d nt = true) (hK : K (put t d (.bool (decide (b < a)))) m) : Step P nt ops ⟨some d, .binOp .gtr X x y Y, T, p, af, none⟩ t m K :=
  .bin hx hy (by simp [aint]) hlt hK
theorem Step.geq (hx : evo t x = some (.int k a)) (hy : evo t y = some (.int k b)) (hlt : Nat.blt d nt = true) (hK : K (put t d (.bool (decide (b ≤ a)))) m) : Step P nt ops ⟨some d, .binOp .geq X x y Y, T, p, af, none⟩ t m K :=
  .bin hx hy (by simp [aint]) hlt hK
theorem Step.eql (hx : evo t x = some (.int k a)) (hy : evo t y = some (.int k b)) (hlt : Nat.blt d nt = true) (hK : K (put t d (.bool (decide (a = b)))) m) : Step P nt ops ⟨some d, .binOp .eql X x y Y, T, p, af, none⟩ t m K :=
  .bin hx hy (by simp [aint]) hlt hK
theorem Step.neq (hx : evo t x = some (.int k a)) (hy : evo t y = some (.int k b)) (hlt : Nat.blt d nt = true) (hK : K (put t d (.bool (!decide (a = b)))) m) : Step P nt ops ⟨some d, .binOp .neq X x y Y, T, p, af, none⟩ t m K :=
  .bin hx hy (by simp [aint]) hlt hK
/-- An operation on numbers, bools and the like, by the model's own reckoning. -/
theorem Step.ground {o : Oper} {v : Value} (hd : o.dst = some d) (hg : o.guard = none) (hlt : Nat.blt d nt = true) (hk : ∀ x ∈ o.op.operands.toList, ∃ v, evo t x = some v ∧ g1 v = true) (hq : aground P o (evD t) = some v → aquiet P o (evD t) m = some v)
    (hst : Sim.still P (execOp (evD t) o) = some (.value v)) (hv : g1 v = true) (hK : K (put t d v) m) : Step P nt ops o t m K := by
  refine .q hd hg hlt (fun x hx => by obtain ⟨u, h, _⟩ := hk x hx; exact ⟨u, h⟩) (hq ?_) hK
  unfold aground
  rw [if_pos ?_]
  · simp [hst, hv]
  · rw [Array.all_eq_true_iff_forall_mem]
    intro x hx
    obtain ⟨u, h, h'⟩ := hk x (by simpa using hx)
    simpa [evD_of h] using h'
theorem Step.quo (hx : evo t x = some (.int .i64 a)) (hy : evo t y = some (.int .i64 b)) (ha : 0 ≤ a ∧ a ≤ 9223372036854775807) (hb : 1 ≤ b) (hlt : Nat.blt d nt = true) (hK : K (put t d (.int .i64 (a / b))) m) : Step P nt ops ⟨some d, .binOp .quo X x y Y, T, p, af, none⟩ t m K := by
  have hq : IntKind.i64.wrap (a.tdiv b) = a / b := by
    rw [Int.tdiv_eq_ediv_of_nonneg ha.1]
    have h1 : a / b ≤ a := Int.ediv_le_self _ ha.1
    have h2 : 0 ≤ a / b := Int.ediv_nonneg ha.1 (by omega)
    exact IntWalk.i64_in _ (by omega)
  refine .ground rfl rfl hlt (by simp [Op.operands, hx, hy, g1, g0]) (fun h => by simp only [aquiet, evD_of hx, evD_of hy, aint, anil]; simpa [evD_of hx, evD_of hy] using h) ?_ (by simp [g1, g0]) hK
  simp [execOp, eqGuard, binOp, evD_of hx, evD_of hy, Op.intDiv, show ¬ b = 0 by omega, hq, bind, Sem.bind, pure, Sim.still]
theorem Step.rem (hx : evo t x = some (.int .i64 a)) (hy : evo t y = some (.int .i64 b)) (ha : 0 ≤ a) (hb : 1 ≤ b) (hlt : Nat.blt d nt = true) (hK : K (put t d (.int .i64 (a % b))) m) : Step P nt ops ⟨some d, .binOp .rem X x y Y, T, p, af, none⟩ t m K := by
  refine .ground rfl rfl hlt (by simp [Op.operands, hx, hy, g1, g0]) (fun h => by simp only [aquiet, evD_of hx, evD_of hy, aint, anil]; simpa [evD_of hx, evD_of hy] using h) ?_ (by simp [g1, g0]) hK
  simp [execOp, eqGuard, binOp, evD_of hx, evD_of hy, Op.intDiv, show ¬ b = 0 by omega, Int.tmod_eq_emod_of_nonneg ha, bind, Sem.bind, pure, Sim.still]
end ints
theorem Step.not {x : Operand} {X : TypeId} {q : Bool} (hx : evo t x = some (.bool q)) (hlt : Nat.blt d nt = true) (hK : K (put t d (.bool !q)) m) : Step P nt ops ⟨some d, .unOp .not X x, T, p, af, none⟩ t m K :=
  .ground rfl rfl hlt (by simp [Op.operands, hx, g1, g0]) (fun h => by simpa [aquiet] using h) (by simp [execOp, Op.unary, evD_of hx, bind, Sem.bind, pure, Sim.still]) (by simp [g1, g0]) hK
theorem Step.neg {x : Operand} {X : TypeId} {a : Int} (hx : evo t x = some (.int .i64 a)) (hr : -9223372036854775807 ≤ a ∧ a ≤ 9223372036854775807) (hlt : Nat.blt d nt = true) (hK : K (put t d (.int .i64 (-a))) m) : Step P nt ops ⟨some d, .unOp .neg X x, T, p, af, none⟩ t m K :=
  .ground rfl rfl hlt (by simp [Op.operands, hx, g1, g0]) (fun h => by simpa [aquiet] using h) (by simp [execOp, Op.unary, Op.intArith, evD_of hx, bind, Sem.bind, pure, Sim.still, IntWalk.i64_in (-a) (by omega)]) (by simp [g1, g0]) hK
theorem Step.len {x : Operand} {X a o n : Nat} {v : Value} (hx : evo t x = some v) (hs : Sl v a o n) (hX : slB P X = true) (hlt : Nat.blt d nt = true) (hK : K (put t d (.int .i64 ((n : Nat) : Int))) m) :
    Step P nt ops ⟨some d, .call ⟨.builtin .len, #[x], #[X]⟩, T, p, af, none⟩ t m K := by
  refine .q rfl rfl hlt (by simp [Op.operands, Call.operands, hx]) ?_ hK
  unfold slB at hX
  split at hX
  · rename_i e hu
    rcases hs with ⟨rfl, rfl⟩ | ⟨c, hc, rfl⟩ <;> simp [aquiet, evD_of hx, alen, hu, aSliceLen]
  · cases hX
theorem Step.max {x y : Operand} {X Y : TypeId} {a b : Int} {k : IntKind} (hx : evo t x = some (.int k a)) (hy : evo t y = some (.int k b)) (hlt : Nat.blt d nt = true) (hK : K (put t d (.int k (max a b))) m) :
    Step P nt ops ⟨some d, .call ⟨.builtin .max, #[x, y], #[X, Y]⟩, T, p, af, none⟩ t m K := by
  refine .ground rfl rfl hlt (by simp [Op.operands, Call.operands, hx, hy, g1, g0]) (fun h => by simpa [aquiet] using h) ?_ (by simp [g1, g0]) hK
  have : (if b > a then b else a) = Max.max a b := by rw [Int.max_def]; split <;> split <;> omega
  simp [execOp, resolve, invoke, builtin, Builtin.max_, Builtin.max2, evD_of hx, evD_of hy, this, bind, Sem.bind, pure, Sim.still]
theorem Step.min {x y : Operand} {X Y : TypeId} {a b : Int} {k : IntKind} (hx : evo t x = some (.int k a)) (hy : evo t y = some (.int k b)) (hlt : Nat.blt d nt = true) (hK : K (put t d (.int k (min a b))) m) :
    Step P nt ops ⟨some d, .call ⟨.builtin .min, #[x, y], #[X, Y]⟩, T, p, af, none⟩ t m K := by
  refine .ground rfl rfl hlt (by simp [Op.operands, Call.operands, hx, hy, g1, g0]) (fun h => by simpa [aquiet] using h) ?_ (by simp [g1, g0]) hK
  have : (if b < a then b else a) = Min.min a b := by rw [Int.min_def]; split <;> split <;> omega
  simp [execOp, resolve, invoke, builtin, Builtin.min_, Builtin.min2, evD_of hx, evD_of hy, this, bind, Sem.bind, pure, Sim.still]
end
end Go.Proofs.Ytmomjannlnafcaa.Abs
