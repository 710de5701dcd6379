import Derived.Test.YtmomjannlnafcaaAbs9
namespace Go.Proofs.Ytmomjannlnafcaa.Abs
set_option linter.unusedSimpArgs false
set_option linter.unusedVariables false
open Go.RowKit
open Go.Proofs.Ytmomjannlnafcaa.Sim
section
variable {P : Program} {nt : Nat} {ops : Array Oper} {t : Fm} {m : AM} {K : Fm → AM → Prop} {d T : Nat} {p : String} {af : Array Edge}
theorem still_und {X : TypeId} {u : TypeDesc} (hX : P.underlying X = some u) : Sim.still P (underlying X) = some u := by
  unfold underlying
  show Sim.still P (Sem.bind program _) = _
  rw [still_bind]
  simp [program, Sim.still, hX, pure]
theorem still_eqB {X : TypeId} (hX : P.underlying X = some .bool) (n : Nat) (a b : Bool) : Sim.still P (Op.equalIn (n + 1) X (.bool a) (.bool b)) = some (a == b) := by
  rw [Op.equalIn]
  show Sim.still P (Sem.bind (underlying X) _) = _
  rw [still_bind, still_und hX]
  rfl
theorem Step.neqB {x y : Operand} {X Y : TypeId} {a b : Bool} (hx : evo t x = some (.bool a)) (hy : evo t y = some (.bool b)) (hX : P.underlying X = some .bool) (hlt : Nat.blt d nt = true) (hK : K (put t d (.bool (!(a == b)))) m) : Step P nt ops ⟨some d, .binOp .neq X x y Y, T, p, af, none⟩ t m K := by
  refine .ground rfl rfl hlt (by simp [Op.operands, hx, hy, g1, g0]) (fun h => by simp only [aquiet, evD_of hx, evD_of hy, aint, anil, hX]; simpa [evD_of hx, evD_of hy] using h) ?_ (by simp [g1, g0]) hK
  have he := still_eqB hX 9999 a b
  simp only [execOp, eqGuard, binOp, evD_of hx, evD_of hy, bind, Sem.bind, pure]
  show Sim.still P (((Op.equalIn (9999 + 1) X (.bool a) (.bool b)).bind _).bind _) = _
  rw [still_bind, still_bind, he]
  rfl
theorem Step.eqlB {x y : Operand} {X Y : TypeId} {a b : Bool} (hx : evo t x = some (.bool a)) (hy : evo t y = some (.bool b)) (hX : P.underlying X = some .bool) (hlt : Nat.blt d nt = true) (hK : K (put t d (.bool (a == b))) m) : Step P nt ops ⟨some d, .binOp .eql X x y Y, T, p, af, none⟩ t m K := by
  refine .ground rfl rfl hlt (by simp [Op.operands, hx, hy, g1, g0]) (fun h => by simp only [aquiet, evD_of hx, evD_of hy, aint, anil, hX]; simpa [evD_of hx, evD_of hy] using h) ?_ (by simp [g1, g0]) hK
  have he := still_eqB hX 9999 a b
  simp only [execOp, eqGuard, binOp, evD_of hx, evD_of hy, bind, Sem.bind, pure]
  show Sim.still P (((Op.equalIn (9999 + 1) X (.bool a) (.bool b)).bind _).bind _) = _
  rw [still_bind, still_bind, he]
  rfl
end
end Go.Proofs.Ytmomjannlnafcaa.Abs
