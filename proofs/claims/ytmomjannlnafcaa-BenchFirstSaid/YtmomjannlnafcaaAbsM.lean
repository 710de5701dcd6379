/- A row of ints that is turned in place; conversions and shifts. -/
import Derived.Test.YtmomjannlnafcaaAbs9
namespace Go.Proofs.Ytmomjannlnafcaa.Abs
set_option linter.unusedSimpArgs false
set_option linter.unusedVariables false
open Go.RowKit
open Go.Proofs.Ytmomjannlnafcaa.Sim
/-- The memory in which block a holds the row l. -/
def St (m : AM) (a : Nat) (kd : Kind) (s : Nat) (l : List Int) : AM := m.set a (some { cells := iv l, kind := kd, size := s })
section
variable {m : AM} {a s : Nat} {kd : Kind} {l k : List Int}
theorem St.len : (St m a kd s l).length = m.length := by simp [St]
theorem St.get (h : a < m.length) : (St m a kd s l)[a]? = some (some { cells := iv l, kind := kd, size := s }) := by simp [St, h]
theorem St.ne {b : Nat} (h : b ≠ a) : (St m a kd s l)[b]? = m[b]? := by simp [St, List.getElem?_set_ne (Ne.symm h)]
theorem St.set : (St m a kd s l).set a (some { cells := iv k, kind := kd, size := s }) = St m a kd s k := by simp [St]
theorem St.st : St (St m a kd s l) a kd s k = St m a kd s k := by simp [St]
theorem St.rd {o : Nat} (h : a < m.length) (ho : o < l.length) : Rd (St m a kd s l) a o (.int .i64 (l.getD o 0)) := ⟨_, St.get h, iv_get ho⟩
theorem St.self (h : m[a]? = some (some { cells := iv l, kind := kd, size := s })) : St m a kd s l = m := by
  apply List.ext_getElem?
  intro i
  by_cases e : i = a
  · subst e; rw [St.get (List.getElem?_eq_some_iff.1 h).1, h]
  · rw [St.ne e]
theorem St.rd_ne {b o : Nat} {v : Value} (h : Rd m b o v) (e : b ≠ a) : Rd (St m a kd s l) b o v := by
  obtain ⟨x, h1, h2⟩ := h
  exact ⟨x, by rw [St.ne e]; exact h1, h2⟩
theorem St.rdl_ne {b o : Nat} {c : List Value} (h : RdL m b o c) (e : b ≠ a) : RdL (St m a kd s l) b o c := by
  obtain ⟨x, h1, h2⟩ := h
  exact ⟨x, by rw [St.ne e]; exact h1, h2⟩
end
/-- Behind a piece of code one goes on from what holds on all ways. -/
theorem AW.join {P : Program} {nt : Nat} {m0 m : AM} {t : Fm} {c : Code} {K : Fm → AM → Prop} {Q : AEx → Fm → AM → Prop} (Mid : Fm → AM → Prop) (h : AW P nt m0 c t m (Then Mid Q)) (h2 : ∀ t m, Mid t m → K t m) : AW P nt m0 c t m (Then K Q) :=
  h.mono fun e t m => by cases e <;> first | exact h2 t m | exact id
section
variable {P : Program} {nt : Nat} {ops : Array Oper} {t : Fm} {m : AM} {K : Fm → AM → Prop} {d T : Nat} {p : String} {af : Array Edge}
theorem Step.storeR {x y : Operand} {ty : TypeId} {a s o : Nat} {kd : Kind} {l l' : List Int} {v : Int} (hx : evo t x = some (.pointer (some ⟨a, o, none⟩))) (hy : evo t y = some (.int .i64 v)) (hz : szB P ty = some 1) (ha : a < m.length) (hs : kd.solid = true) (ho : o < l.length)
    (hl : l.set o v = l') (hK : K t (St m a kd s l')) : Step P nt ops ⟨none, .store ty x y, T, p, af, none⟩ t (St m a kd s l) K := by
  subst hl
  refine .l0 rfl rfl rfl (by simp [Op.operands, hx, hy]) (loud_of_aloud0 (v := undef) (m' := St m a kd s (l.set o v)) rfl ?_ hK)
  have hsp : splice (iv l) o [.int .i64 v] = iv (l.set o v) := by
    rw [← iv_set]
    unfold splice
    rw [List.set_eq_take_append_cons_drop]
    simp [iv_len, ho]
  simp only [aloud, evD_of hx, evD_of hy, astore, St.get ha, hz]
  rw [if_pos (by simp [hs, iv_len, Value.cells, Value.oneCell']; omega)]
  simp [St.set, hsp, Value.cells]
theorem still_under {X : TypeId} {T : TypeDesc} (hX : P.underlying X = some T) : Sim.still P (underlying X) = some T := by
  unfold underlying
  show Sim.still P (Sem.bind program _) = _
  rw [still_bind]
  simp [program, Sim.still, hX, pure]
theorem Step.conv {x : Operand} {S D : TypeId} {k ks k' : IntKind} {a b : Int} (hx : evo t x = some (.int k a)) (hS : P.underlying S = some (.int ks)) (hD : P.underlying D = some (.int k')) (hw : k'.wrap a = b) (hlt : Nat.blt d nt = true) (hK : K (put t d (.int k' b)) m) :
    Step P nt ops ⟨some d, .convert S D x, T, p, af, none⟩ t m K := by
  refine .ground rfl rfl hlt (by simp [Op.operands, hx, g1, g0]) (fun h => by simpa [aquiet] using h) ?_ (by simp [g1, g0]) hK
  subst hw
  simp only [execOp, evD_of hx, bind]
  rw [still_bind]
  unfold convert
  simp only [bind]
  rw [still_bind, still_under hS]
  simp only
  rw [still_bind, still_under hD]
  rfl
theorem u64_in {n : Int} (h : 0 ≤ n ∧ n ≤ 9223372036854775807) : IntKind.u64.wrap n = n := by
  simp only [IntKind.wrap, IntKind.signed, IntKind.bits]
  simp
  omega
/-- int to uint -/
theorem Step.toU {x : Operand} {S D : TypeId} {a : Int} (hx : evo t x = some (.int .i64 a)) (hS : P.underlying S = some (.int .i64)) (hD : P.underlying D = some (.int .u64)) (hr : 0 ≤ a ∧ a ≤ 9223372036854775807) (hlt : Nat.blt d nt = true) (hK : K (put t d (.int .u64 a)) m) :
    Step P nt ops ⟨some d, .convert S D x, T, p, af, none⟩ t m K := .conv hx hS hD (u64_in hr) hlt hK
/-- uint to int -/
theorem Step.toI {x : Operand} {S D : TypeId} {a : Int} (hx : evo t x = some (.int .u64 a)) (hS : P.underlying S = some (.int .u64)) (hD : P.underlying D = some (.int .i64)) (hr : 0 ≤ a ∧ a ≤ 9223372036854775807) (hlt : Nat.blt d nt = true) (hK : K (put t d (.int .i64 a)) m) :
    Step P nt ops ⟨some d, .convert S D x, T, p, af, none⟩ t m K := .conv hx hS hD (IntWalk.i64_in _ (by omega)) hlt hK
theorem Step.half {x y : Operand} {X Y : TypeId} {a : Int} (hx : evo t x = some (.int .u64 a)) (hy : evo t y = some (.int .u64 1)) (ha : 0 ≤ a) (hlt : Nat.blt d nt = true) (hK : K (put t d (.int .u64 (a / 2))) m) : Step P nt ops ⟨some d, .binOp .shr X x y Y, T, p, af, none⟩ t m K := by
  refine .ground rfl rfl hlt (by simp [Op.operands, hx, hy, g1, g0]) (fun h => by simp only [aquiet, evD_of hx, evD_of hy, aint, anil]; simpa [evD_of hx, evD_of hy] using h) ?_ (by simp [g1, g0]) hK
  have : a.fdiv 2 = a / 2 := Int.fdiv_eq_ediv_of_nonneg a (by omega)
  simp [execOp, eqGuard, binOp, evD_of hx, evD_of hy, Op.shift, IntKind.bits, this, bind, Sem.bind, pure, Sim.still]
section
variable {X Y : TypeId} {x y : Operand} {a b : Int} {c : Nat}
theorem Step.addE (hx : evo t x = some (.int .i64 a)) (hy : evo t y = some (.int .i64 b)) (he : a + b = ((c : Nat) : Int)) (hr : c ≤ 9223372036854775807) (hlt : Nat.blt d nt = true) (hK : K (put t d (.int .i64 ((c : Nat) : Int))) m) : Step P nt ops ⟨some d, .binOp .add X x y Y, T, p, af, none⟩ t m K := by
  rw [← he] at hK; exact .add hx hy (by omega) hlt hK
theorem Step.subE (hx : evo t x = some (.int .i64 a)) (hy : evo t y = some (.int .i64 b)) (he : a - b = ((c : Nat) : Int)) (hr : c ≤ 9223372036854775807) (hlt : Nat.blt d nt = true) (hK : K (put t d (.int .i64 ((c : Nat) : Int))) m) : Step P nt ops ⟨some d, .binOp .sub X x y Y, T, p, af, none⟩ t m K := by
  rw [← he] at hK; exact .sub hx hy (by omega) hlt hK
theorem Step.mulE (hx : evo t x = some (.int .i64 a)) (hy : evo t y = some (.int .i64 b)) (he : a * b = ((c : Nat) : Int)) (hr : c ≤ 9223372036854775807) (hlt : Nat.blt d nt = true) (hK : K (put t d (.int .i64 ((c : Nat) : Int))) m) : Step P nt ops ⟨some d, .binOp .mul X x y Y, T, p, af, none⟩ t m K := by
  rw [← he] at hK; exact .mul hx hy (by omega) hlt hK
theorem Step.halfE (hx : evo t x = some (.int .u64 a)) (hy : evo t y = some (.int .u64 1)) (he : a / 2 = ((c : Nat) : Int)) (hr : 0 ≤ a) (hlt : Nat.blt d nt = true) (hK : K (put t d (.int .u64 ((c : Nat) : Int))) m) : Step P nt ops ⟨some d, .binOp .shr X x y Y, T, p, af, none⟩ t m K := by
  rw [← he] at hK; exact .half hx hy hr hlt hK
end
/-- A result that names one new block. -/
def NewT (f : Nat → Value) (b : Option Blk) (m : AM) : Value → AM → Prop := fun v m' => v = f m.length ∧ m' = m ++ [b]
theorem Step.callT {args : Array Operand} {tys : Array TypeId} {g : FuncId} {vs : List Value} {fn : Func} {b : Code} {k : Nat} {f : Nat → Value} {bl : Option Blk} {M L L' : AM} (hP : Fit P) (hk : L.length = k) (ha : evL t args.toList = some vs) (hf : P.funcs[g]? = some fn) (hb : fn.body = some b)
    (hlt : Nat.blt d nt = true) (h : ACall P g vs.toArray (M ++ L) (NewT f bl (M ++ L))) (hL : L ++ [bl] = L') (hK : K (put t d (f (M.length + k))) (M ++ L')) : Step P nt ops ⟨some d, .call ⟨.value (.func g), args, tys⟩, T, p, af, none⟩ t (M ++ L) K :=
  .callF hP ha hf hb hlt h (by
    rintro v m' ⟨rfl, rfl⟩
    subst hL
    rw [List.length_append, hk, List.append_assoc]
    exact hK)
theorem Sl.cells {v : Value} {a o n : Nat} (h : Sl v a o n) : v.cells = #[v] ∧ v.oneCell' = true := by
  rcases h with ⟨rfl, _⟩ | ⟨c, _, rfl⟩ <;> exact ⟨rfl, rfl⟩
/-- A new variable with a slice. -/
theorem Step.boxV {x : Operand} {ty : TypeId} {v : Value} {M L L' : AM} (k : Nat) (hk : L.length = k) (hx : evo t x = some v) (hv : v.cells = #[v] ∧ v.oneCell' = true) (hlt : Nat.blt d nt = true) (hL : L ++ [some { cells := [v] }] = L') (hK : K (put t d (.pointer (some ⟨M.length + k, 0, none⟩))) (M ++ L')) :
    Step P nt ops ⟨some d, .box ty x, T, p, af, none⟩ t (M ++ L) K :=
  .box k hk hx (by rw [hv.1]; simp [hv.2]) hlt (by rw [hv.1]; exact hL) hK
/-- A call for what it does to the memory. -/
theorem Step.callM {args : Array Operand} {tys : Array TypeId} {g : FuncId} {vs : List Value} {fn : Func} {b : Code} {m m' : AM} {r : Value} (hP : Fit P) (ha : evL t args.toList = some vs) (hf : P.funcs[g]? = some fn) (hb : fn.body = some b)
    (hlt : Nat.blt d nt = true) (h : ACall P g vs.toArray m (Ret r m')) (hK : K (put t d r) m') : Step P nt ops ⟨some d, .call ⟨.value (.func g), args, tys⟩, T, p, af, none⟩ t m K :=
  .callF hP ha hf hb hlt h (by rintro v m1 ⟨rfl, rfl⟩; exact hK)
end
end Go.Proofs.Ytmomjannlnafcaa.Abs
