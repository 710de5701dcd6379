/- Proved here: what the proof of StockNobody rests on, part 2 of 2. Conditions: those that each theorem names. -/
import Derived.Test.YtabdnepfcohncaaStockNobodyK1
namespace Go.Proofs.Ytabdnepfcohncaa.Abs
set_option linter.unusedSimpArgs false
set_option linter.unusedVariables false
open Go.RowKit
open Go.Proofs.Ytabdnepfcohncaa.Sim
section
variable {P : Program} {nt : Nat} {ops : Array Oper} {t : Fm} {m : AM} {K : Fm → AM → Prop} {d T : Nat} {p : String} {af : Array Edge}
theorem still_nilP {X e : TypeId} (hX : P.underlying X = some (.pointer e)) (n : Nat) : Sim.still P (Op.equalIn (n + 1) X (.pointer none) (.pointer none)) = some true := by
  rw [Op.equalIn]
  show Sim.still P (Sem.bind (underlying X) _) = _
  rw [still_bind]
  have : Sim.still P (underlying X) = some (.pointer e) := by
    unfold underlying
    show Sim.still P (Sem.bind program _) = _
    rw [still_bind]
    simp [program, Sim.still, hX, pure]
  rw [this]
  rfl
theorem Step.ptrNil {x y : Operand} {X Y e : TypeId} (hx : evo t x = some (.pointer none)) (hy : evo t y = some (.pointer none)) (hX : P.underlying X = some (.pointer e)) (hlt : Nat.blt d nt = true) (hK : K (put t d (.bool true)) m) : Step P nt ops ⟨some d, .binOp .eql X x y Y, T, p, af, none⟩ t m K := by
  refine .ground rfl rfl hlt (by simp [Op.operands, hx, hy, g1, g0]) (fun h => by simp only [aquiet, evD_of hx, evD_of hy, aint, anil, hX]; simpa [evD_of hx, evD_of hy] using h) ?_ (by simp [g1, g0]) hK
  have he := still_nilP hX 9999
  simp only [execOp, eqGuard, binOp, evD_of hx, evD_of hy, bind, Sem.bind, pure]
  show Sim.still P (((Op.equalIn (9999 + 1) X (.pointer none) (.pointer none)).bind _).bind _) = _
  rw [still_bind, still_bind, he]
  rfl
theorem Step.ptrNot {x y : Operand} {X Y : TypeId} {a o : Nat} {e : TypeId} (hx : evo t x = some (.pointer (some ⟨a, o, none⟩))) (hy : evo t y = some (.pointer none)) (hX : P.underlying X = some (.pointer e)) (hlt : Nat.blt d nt = true) (hK : K (put t d (.bool false)) m) : Step P nt ops ⟨some d, .binOp .eql X x y Y, T, p, af, none⟩ t m K :=
  .q rfl rfl hlt (by simp [Op.operands, hx, hy]) (by simp [aquiet, evD_of hx, evD_of hy, aint, anil, hX, bEq]) hK
end
end Go.Proofs.Ytabdnepfcohncaa.Abs
namespace Go.Proofs.Ytabdnepfcohncaa.Abs
open Go.RowKit
open Go.Proofs.Ytabdnepfcohncaa.Sim
/-- What a call made and does not return is let go. -/
theorem ACall.drop {P : Program} {f : FuncId} {args : Array Value} {m : AM} {r : Value} (hr : Ren rid m.length r r) (h : ACall P f args m (fun v m' => v = r ∧ ∃ N, m' = m ++ N)) : ACall P f args m (Ret r m) := by
  intro base R w args' hb hm ha
  refine (h base R w args' hb hm ha).mono ?_
  rintro e w' ⟨v, v', R', m', he, hrel, hpost, rfl, N, rfl⟩
  obtain ⟨R1, h1, h2⟩ := (Gc.drop (M := m) (L := N) (t := fr [(0, v)]) (l := [(0, v)]) ⟨⟨rfl, hr⟩, trivial⟩).ok hm hpost (nt := 1) (u := #[v']) ⟨rfl, fun i x hi => by
    by_cases e : i = 0
    · subst e
      have : some v = some x := hi
      injection this with this; subst this
      exact hrel
    · have : fr [(0, v)] i = none := by show put (fr []) 0 v i = none; rw [put_ne _ _ e]; rfl
      rw [this] at hi; cases hi⟩
  exact ⟨v, v', R1, m, he, h2.rel 0 v rfl, h1, rfl, rfl⟩
end Go.Proofs.Ytabdnepfcohncaa.Abs
namespace Go.Proofs.Ytabdnepfcohncaa.Abs
open Go.RowKit
open Go.Proofs.Ytabdnepfcohncaa.Sim
end Go.Proofs.Ytabdnepfcohncaa.Abs
namespace Go.Proofs.Ytabdnepfcohncaa.Abs
open Go.RowKit
open Go.Proofs.Ytabdnepfcohncaa.Sim
end Go.Proofs.Ytabdnepfcohncaa.Abs
namespace Go.Proofs.Ytabdnepfcohncaa.Abs
set_option linter.unusedSimpArgs false
set_option linter.unusedVariables false
open Go.RowKit
open Go.Proofs.Ytabdnepfcohncaa.Sim
def by8 (l : List UInt8) : List Value := l.map fun b => .int .u8 (b.toNat : Int)
theorem by8_len (l : List UInt8) : (by8 l).length = l.length := by simp [by8]
theorem by8_get {l : List UInt8} {j : Nat} (h : j < l.length) : (by8 l)[j]? = some (.int .u8 ((l[j]).toNat : Int)) := by simp [by8, h]
theorem g0_by8 (l : List UInt8) : ∀ v ∈ by8 l, g0 v = true := by
  intro v hv
  simp only [by8, List.mem_map] at hv
  obtain ⟨b, _, rfl⟩ := hv
  rfl
section
variable {P : Program} {nt : Nat} {ops : Array Oper} {t : Fm} {m : AM} {K : Fm → AM → Prop} {d T : Nat} {p : String} {af : Array Edge}
end
end Go.Proofs.Ytabdnepfcohncaa.Abs
namespace Go.Proofs.Ytabdnepfcohncaa.Abs
set_option linter.unusedSimpArgs false
set_option linter.unusedVariables false
open Go.RowKit
open Go.Proofs.Ytabdnepfcohncaa.Sim
open Go.Proofs
theorem fit : Fit Try.prog := ⟨fun f fn h => by
  have key : (Try.prog.funcs.toList.all fun fn => !(fn.name == "runtime.NumGoroutine")) = true := by kernel_rfl
  have := List.all_eq_true.1 key fn (by simpa using Array.mem_of_getElem? h)
  simpa using this, by kernel_rfl⟩
theorem un36 : Try.prog.underlying 36 = some (.pointer 120) := by kernel_rfl
theorem un49 : Try.prog.underlying 49 = some (.pointer 133) := by kernel_rfl
theorem un57 : Try.prog.underlying 57 = some (.pointer 138) := by kernel_rfl
theorem un96 : Try.prog.underlying 96 = some (.pointer 126) := by kernel_rfl
section
variable {P : Program} {nt : Nat} {ops : Array Oper} {t : Fm} {m : AM} {K : Fm → AM → Prop} {d T : Nat} {p : String} {af : Array Edge}
theorem Step.ptrNilN {x y : Operand} {X Y e : TypeId} (hx : evo t x = some (.pointer none)) (hy : evo t y = some (.pointer none)) (hX : P.underlying X = some (.pointer e)) (hlt : Nat.blt d nt = true) (hK : K (put t d (.bool false)) m) : Step P nt ops ⟨some d, .binOp .neq X x y Y, T, p, af, none⟩ t m K := by
  refine .ground rfl rfl hlt (by simp [Op.operands, hx, hy, g1, g0]) (fun h => by simp only [aquiet, evD_of hx, evD_of hy, aint, anil, hX]; simpa [evD_of hx, evD_of hy] using h) ?_ (by simp [g1, g0]) hK
  have he := still_nilP hX 9999
  simp only [execOp, eqGuard, binOp, evD_of hx, evD_of hy, bind, Sem.bind, pure]
  show Sim.still P (((Op.equalIn (9999 + 1) X (.pointer none) (.pointer none)).bind _).bind _) = _
  rw [still_bind, still_bind, he]
  rfl
theorem Step.ptrNotN {x y : Operand} {X Y : TypeId} {a o : Nat} {e : TypeId} (hx : evo t x = some (.pointer (some ⟨a, o, none⟩))) (hy : evo t y = some (.pointer none)) (hX : P.underlying X = some (.pointer e)) (hlt : Nat.blt d nt = true) (hK : K (put t d (.bool true)) m) : Step P nt ops ⟨some d, .binOp .neq X x y Y, T, p, af, none⟩ t m K :=
  .q rfl rfl hlt (by simp [Op.operands, hx, hy]) (by simp [aquiet, evD_of hx, evD_of hy, aint, anil, hX, bEq]) hK
end
/-- Nil, or a pointer to a block of which this cell holds this. -/
def Zr (m : AM) (v : Value) (o : Nat) (x : Value) : Prop := v = .pointer none ∨ ∃ a, v = .pointer (some ⟨a, 0, none⟩) ∧ Rd m a o x
theorem Zr.old {m : AM} {v : Value} {o : Nat} {x : Value} (T : AM) (h : Zr m v o x) : Zr (m ++ T) v o x := by
  rcases h with h | ⟨a, h1, h2⟩
  · exact .inl h
  · exact .inr ⟨a, h1, h2.old T⟩
theorem bl155 {a b : Int} : abuild Try.prog 155 [(0, .int .i64 a), (1, .int .i64 b)] = some (.agg #[.int .i64 a, .int .i64 b]) := by kernel_rfl
theorem Ren.tupII {ρ : Nat → Nat} {n : Nat} (a b : Int) : Ren ρ n (.tuple #[.int .i64 a, .int .i64 b]) (.tuple #[.int .i64 a, .int .i64 b]) := .tuple _ _ rfl fun i hi => by
  simp at hi
  rcases (show i = 0 ∨ i = 1 by omega) with rfl | rfl
  · exact .int _ _
  · exact .int _ _
set_option maxRecDepth 100000 in
theorem at_nil {m : AM} {v : Value} (n : Int) (h : Zr m v 7 (.int .i64 0)) : ACall Try.prog 115 #[v, .int .i64 n] m (Ret (.tuple #[.pointer none, .int .i64 1]) m) := by
  rcases h with rfl | ⟨a, rfl, hr⟩
  · refine ACall.start Try.func115 rfl rfl ?_
    (repeat (first | (with_reducible refine AWo.cons ?_) | ((with_reducible refine Step.id ?_); first | ((with_reducible apply Step.gdF); exact rfl; exact rfl; (focus (rfl))) | ((with_reducible apply Step.move); exact rfl; exact rfl) | ((with_reducible apply Step.assign); exact rfl; exact rfl) | ((with_reducible apply Step.ptrNil); exact rfl; exact rfl; exact un36; exact rfl) | ((with_reducible apply Step.pickT); exact rfl; exact rfl; exact rfl; exact rfl; (focus (rfl)))) | (with_reducible refine AWo.nil ?_) | ((with_reducible apply AW.seq)) | ((with_reducible apply Then.n)) | ((with_reducible apply AW.regL)) | ((with_reducible apply AW.block)) | ((with_reducible apply AW.condT); exact rfl; (focus (rfl)))))
    (refine AW.ret ?_; (repeat (first | refine Then.r ?_ | refine InBlk.r ?_)))
    exact ⟨_, rfl, rfl, (List.append_nil _).symm⟩
  · refine ACall.start Try.func115 rfl rfl ?_
    (repeat (first | (with_reducible refine AWo.cons ?_) | ((with_reducible refine Step.id ?_); first | ((with_reducible apply Step.gdT); exact rfl; exact rfl; (focus (rfl))) | ((with_reducible apply Step.move); exact rfl; exact rfl) | ((with_reducible apply Step.assign); exact rfl; exact rfl) | ((with_reducible apply Step.load); exact rfl; (focus (decide +kernel)); exact rfl; (focus (exact Rd.old _ (by assumption)))) | ((with_reducible apply Step.field (k := 7)); exact rfl; (focus (decide +kernel)); exact rfl) | ((with_reducible apply Step.ptrNot); exact rfl; exact rfl; exact un36; exact rfl) | ((with_reducible apply Step.eql); exact rfl; exact rfl; exact rfl) | ((with_reducible apply Step.nilp); exact rfl; exact rfl) | ((with_reducible apply Step.pickF); exact rfl; exact rfl; exact rfl; exact rfl; (focus (rfl)))) | (with_reducible refine AWo.nil ?_) | ((with_reducible apply AW.seq)) | ((with_reducible apply Then.n)) | ((with_reducible apply AW.regL)) | ((with_reducible apply AW.block)) | ((with_reducible apply AW.condT); exact rfl; (focus (rfl)))))
    (refine AW.ret ?_; (repeat (first | refine Then.r ?_ | refine InBlk.r ?_)))
    exact ⟨_, rfl, rfl, (List.append_nil _).symm⟩
set_option maxRecDepth 100000 in
theorem Append_nil {m : AM} {v : Value} (n : Int) (w : Value) (h : Zr m v 7 (.int .i64 0)) : ACall Try.prog 48 #[v, .int .i64 n, w] m (Ret (.int .i64 1) m) := by
  have c := fun a0 T => at_nil a0 (h.old T)
  refine ACall.start Try.func48 rfl rfl ?_
  (repeat (first | (with_reducible refine AWo.cons ?_) | ((with_reducible refine Step.id ?_); first | ((with_reducible apply Step.move); exact rfl; exact rfl) | ((with_reducible apply Step.assign); exact rfl; exact rfl) | ((with_reducible apply Step.neq); exact rfl; exact rfl; exact rfl) | ((with_reducible apply Step.extract); exact rfl; exact rfl; exact rfl) | ((with_reducible apply Step.callR fit); exact rfl; exact Try.func115; exact rfl; exact rfl; exact (c _ _))) | (with_reducible refine AWo.nil ?_) | ((with_reducible apply AW.seq)) | ((with_reducible apply Then.n)) | ((with_reducible apply AW.regL)) | ((with_reducible apply AW.block)) | ((with_reducible apply AW.condT); exact rfl; (focus (rfl)))))
  (refine AW.ret ?_; (repeat (first | refine Then.r ?_ | refine InBlk.r ?_)))
  exact ⟨_, rfl, rfl, (List.append_nil _).symm⟩
set_option maxRecDepth 100000 in
theorem Sync_nil {m : AM} {v : Value} (n : Int) (h : Zr m v 7 (.int .i64 0)) : ACall Try.prog 66 #[v, .int .i64 n] m (Ret (.int .i64 1) m) := by
  have c := fun a0 T => at_nil a0 (h.old T)
  refine ACall.start Try.func66 rfl rfl ?_
  (repeat (first | (with_reducible refine AWo.cons ?_) | ((with_reducible refine Step.id ?_); first | ((with_reducible apply Step.move); exact rfl; exact rfl) | ((with_reducible apply Step.assign); exact rfl; exact rfl) | ((with_reducible apply Step.neq); exact rfl; exact rfl; exact rfl) | ((with_reducible apply Step.extract); exact rfl; exact rfl; exact rfl) | ((with_reducible apply Step.callR fit); exact rfl; exact Try.func115; exact rfl; exact rfl; exact (c _ _))) | (with_reducible refine AWo.nil ?_) | ((with_reducible apply AW.seq)) | ((with_reducible apply Then.n)) | ((with_reducible apply AW.regL)) | ((with_reducible apply AW.block)) | ((with_reducible apply AW.condT); exact rfl; (focus (rfl)))))
  (refine AW.ret ?_; (repeat (first | refine Then.r ?_ | refine InBlk.r ?_)))
  exact ⟨_, rfl, rfl, (List.append_nil _).symm⟩
set_option maxRecDepth 100000 in
theorem Clear_nil {m : AM} {v : Value} (n : Int) (h : Zr m v 7 (.int .i64 0)) : ACall Try.prog 67 #[v, .int .i64 n] m (Ret (.int .i64 1) m) := by
  have c := fun a0 T => at_nil a0 (h.old T)
  refine ACall.start Try.func67 rfl rfl ?_
  (repeat (first | (with_reducible refine AWo.cons ?_) | ((with_reducible refine Step.id ?_); first | ((with_reducible apply Step.move); exact rfl; exact rfl) | ((with_reducible apply Step.assign); exact rfl; exact rfl) | ((with_reducible apply Step.neq); exact rfl; exact rfl; exact rfl) | ((with_reducible apply Step.extract); exact rfl; exact rfl; exact rfl) | ((with_reducible apply Step.callR fit); exact rfl; exact Try.func115; exact rfl; exact rfl; exact (c _ _))) | (with_reducible refine AWo.nil ?_) | ((with_reducible apply AW.seq)) | ((with_reducible apply Then.n)) | ((with_reducible apply AW.regL)) | ((with_reducible apply AW.block)) | ((with_reducible apply AW.condT); exact rfl; (focus (rfl)))))
  (refine AW.ret ?_; (repeat (first | refine Then.r ?_ | refine InBlk.r ?_)))
  exact ⟨_, rfl, rfl, (List.append_nil _).symm⟩
set_option maxRecDepth 100000 in
theorem Read_nil {m : AM} {v : Value} (n : Int) (h : Zr m v 7 (.int .i64 0)) : ACall Try.prog 53 #[v, .int .i64 n] m (Ret (.tuple #[.slice none 0 0, .int .i64 1]) m) := by
  have c := fun a0 T => at_nil a0 (h.old T)
  refine ACall.start Try.func53 rfl rfl ?_
  (repeat (first | (with_reducible refine AWo.cons ?_) | ((with_reducible refine Step.id ?_); first | ((with_reducible apply Step.move); exact rfl; exact rfl) | ((with_reducible apply Step.assign); exact rfl; exact rfl) | ((with_reducible apply Step.neq); exact rfl; exact rfl; exact rfl) | ((with_reducible apply Step.extract); exact rfl; exact rfl; exact rfl) | ((with_reducible apply Step.callR fit); exact rfl; exact Try.func115; exact rfl; exact rfl; exact (c _ _))) | (with_reducible refine AWo.nil ?_) | ((with_reducible apply AW.seq)) | ((with_reducible apply Then.n)) | ((with_reducible apply AW.regL)) | ((with_reducible apply AW.block)) | ((with_reducible apply AW.condT); exact rfl; (focus (rfl)))))
  (refine AW.ret ?_; (repeat (first | refine Then.r ?_ | refine InBlk.r ?_)))
  exact ⟨_, rfl, rfl, (List.append_nil _).symm⟩
set_option maxRecDepth 100000 in
theorem Fuse_nil {m : AM} {v : Value} (n : Int) (h : Zr m v 7 (.int .i64 0)) : ACall Try.prog 58 #[v, .int .i64 n] m (Ret (.tuple #[]) m) := by
  rcases h with rfl | ⟨a, rfl, hr⟩
  · refine ACall.start Try.func58 rfl rfl ?_
    (repeat (first | (with_reducible refine AWo.cons ?_) | ((with_reducible refine Step.id ?_); first | ((with_reducible apply Step.gdF); exact rfl; exact rfl; (focus (rfl))) | ((with_reducible apply Step.move); exact rfl; exact rfl) | ((with_reducible apply Step.ptrNilN); exact rfl; exact rfl; exact un36; exact rfl) | ((with_reducible apply Step.pickF); exact rfl; exact rfl; exact rfl; exact rfl; (focus (rfl)))) | (with_reducible refine AWo.nil ?_) | ((with_reducible apply AW.seq)) | ((with_reducible apply Then.n)) | ((with_reducible apply AW.regL)) | ((with_reducible apply AW.skip)) | ((with_reducible apply AW.condF); exact rfl; (focus (rfl)))))
    exact ⟨_, rfl, rfl, (List.append_nil _).symm⟩
  · refine ACall.start Try.func58 rfl rfl ?_
    (repeat (first | (with_reducible refine AWo.cons ?_) | ((with_reducible refine Step.id ?_); first | ((with_reducible apply Step.gdT); exact rfl; exact rfl; (focus (rfl))) | ((with_reducible apply Step.move); exact rfl; exact rfl) | ((with_reducible apply Step.load); exact rfl; (focus (decide +kernel)); exact rfl; (focus (exact Rd.old _ (by assumption)))) | ((with_reducible apply Step.field (k := 7)); exact rfl; (focus (decide +kernel)); exact rfl) | ((with_reducible apply Step.ptrNotN); exact rfl; exact rfl; exact un36; exact rfl) | ((with_reducible apply Step.gtr); exact rfl; exact rfl; exact rfl) | ((with_reducible apply Step.nilp); exact rfl; exact rfl) | ((with_reducible apply Step.pickT); exact rfl; exact rfl; exact rfl; exact rfl; (focus (rfl)))) | (with_reducible refine AWo.nil ?_) | ((with_reducible apply AW.seq)) | ((with_reducible apply Then.n)) | ((with_reducible apply AW.regL)) | ((with_reducible apply AW.skip)) | ((with_reducible apply AW.condF); exact rfl; (focus (rfl)))))
    exact ⟨_, rfl, rfl, (List.append_nil _).symm⟩
set_option maxRecDepth 100000 in
theorem Crash_nil {m : AM} {v : Value} (n : Int) (k : Int) (h : Zr m v 7 (.int .i64 0)) : ACall Try.prog 52 #[v, .int .i64 n, .int .i64 k] m (Ret (.tuple #[]) m) := by
  rcases h with rfl | ⟨a, rfl, hr⟩
  · refine ACall.start Try.func52 rfl rfl ?_
    (repeat (first | (with_reducible refine AWo.cons ?_) | ((with_reducible refine Step.id ?_); first | ((with_reducible apply Step.gdF); exact rfl; exact rfl; (focus (rfl))) | ((with_reducible apply Step.move); exact rfl; exact rfl) | ((with_reducible apply Step.ptrNil); exact rfl; exact rfl; exact un36; exact rfl) | ((with_reducible apply Step.pickT); exact rfl; exact rfl; exact rfl; exact rfl; (focus (rfl)))) | (with_reducible refine AWo.nil ?_) | ((with_reducible apply AW.seq)) | ((with_reducible apply Then.n)) | ((with_reducible apply AW.regL)) | ((with_reducible apply AW.condT); exact rfl; (focus (rfl)))))
    (refine AW.ret ?_; (repeat (first | refine Then.r ?_ | refine InBlk.r ?_)))
    exact ⟨_, rfl, rfl, (List.append_nil _).symm⟩
  · refine ACall.start Try.func52 rfl rfl ?_
    (repeat (first | (with_reducible refine AWo.cons ?_) | ((with_reducible refine Step.id ?_); first | ((with_reducible apply Step.gdT); exact rfl; exact rfl; (focus (rfl))) | ((with_reducible apply Step.move); exact rfl; exact rfl) | ((with_reducible apply Step.load); exact rfl; (focus (decide +kernel)); exact rfl; (focus (exact Rd.old _ (by assumption)))) | ((with_reducible apply Step.field (k := 7)); exact rfl; (focus (decide +kernel)); exact rfl) | ((with_reducible apply Step.ptrNot); exact rfl; exact rfl; exact un36; exact rfl) | ((with_reducible apply Step.eql); exact rfl; exact rfl; exact rfl) | ((with_reducible apply Step.nilp); exact rfl; exact rfl) | ((with_reducible apply Step.pickF); exact rfl; exact rfl; exact rfl; exact rfl; (focus (rfl)))) | (with_reducible refine AWo.nil ?_) | ((with_reducible apply AW.seq)) | ((with_reducible apply Then.n)) | ((with_reducible apply AW.regL)) | ((with_reducible apply AW.condT); exact rfl; (focus (rfl)))))
    (refine AW.ret ?_; (repeat (first | refine Then.r ?_ | refine InBlk.r ?_)))
    exact ⟨_, rfl, rfl, (List.append_nil _).symm⟩
set_option maxRecDepth 100000 in
theorem Open_nil {m : AM} {v : Value}  (h : Zr m v 7 (.int .i64 0)) : ACall Try.prog 50 #[v] m (Ret (.tuple #[.pointer none, .int .i64 1]) m) := by
  rcases h with rfl | ⟨a, rfl, hr⟩
  · refine ACall.start Try.func50 rfl rfl ?_
    (repeat (first | (with_reducible refine AWo.cons ?_) | ((with_reducible refine Step.id ?_); first | ((with_reducible apply Step.gdF); exact rfl; exact rfl; (focus (rfl))) | ((with_reducible apply Step.move); exact rfl; exact rfl) | ((with_reducible apply Step.assign); exact rfl; exact rfl) | ((with_reducible apply Step.ptrNil); exact rfl; exact rfl; exact un36; exact rfl) | ((with_reducible apply Step.pickT); exact rfl; exact rfl; exact rfl; exact rfl; (focus (rfl)))) | (with_reducible refine AWo.nil ?_) | ((with_reducible apply AW.seq)) | ((with_reducible apply Then.n)) | ((with_reducible apply AW.regL)) | ((with_reducible apply AW.condT); exact rfl; (focus (rfl)))))
    (refine AW.ret ?_; (repeat (first | refine Then.r ?_ | refine InBlk.r ?_)))
    exact ⟨_, rfl, rfl, (List.append_nil _).symm⟩
  · refine ACall.start Try.func50 rfl rfl ?_
    (repeat (first | (with_reducible refine AWo.cons ?_) | ((with_reducible refine Step.id ?_); first | ((with_reducible apply Step.gdT); exact rfl; exact rfl; (focus (rfl))) | ((with_reducible apply Step.move); exact rfl; exact rfl) | ((with_reducible apply Step.assign); exact rfl; exact rfl) | ((with_reducible apply Step.load); exact rfl; (focus (decide +kernel)); exact rfl; (focus (exact Rd.old _ (by assumption)))) | ((with_reducible apply Step.field (k := 7)); exact rfl; (focus (decide +kernel)); exact rfl) | ((with_reducible apply Step.ptrNot); exact rfl; exact rfl; exact un36; exact rfl) | ((with_reducible apply Step.eql); exact rfl; exact rfl; exact rfl) | ((with_reducible apply Step.nilp); exact rfl; exact rfl) | ((with_reducible apply Step.pickF); exact rfl; exact rfl; exact rfl; exact rfl; (focus (rfl)))) | (with_reducible refine AWo.nil ?_) | ((with_reducible apply AW.seq)) | ((with_reducible apply Then.n)) | ((with_reducible apply AW.regL)) | ((with_reducible apply AW.condT); exact rfl; (focus (rfl)))))
    (refine AW.ret ?_; (repeat (first | refine Then.r ?_ | refine InBlk.r ?_)))
    exact ⟨_, rfl, rfl, (List.append_nil _).symm⟩
set_option maxRecDepth 100000 in
theorem lnone_nil {m : AM} {v : Value}  (h : Zr m v 3 (.pointer none)) : ACall Try.prog 121 #[v] m (Ret (.bool true) m) := by
  rcases h with rfl | ⟨a, rfl, hr⟩
  · refine ACall.start Try.func121 rfl rfl ?_
    (repeat (first | (with_reducible refine AWo.cons ?_) | ((with_reducible refine Step.id ?_); first | ((with_reducible apply Step.gdF); exact rfl; exact rfl; (focus (rfl))) | ((with_reducible apply Step.move); exact rfl; exact rfl) | ((with_reducible apply Step.assign); exact rfl; exact rfl) | ((with_reducible apply Step.ptrNil); exact rfl; exact rfl; exact un96; exact rfl) | ((with_reducible apply Step.pickT); exact rfl; exact rfl; exact rfl; exact rfl; (focus (rfl)))) | (with_reducible refine AWo.nil ?_) | ((with_reducible apply AW.seq)) | ((with_reducible apply Then.n)) | ((with_reducible apply AW.regL))))
    (refine AW.ret ?_; (repeat (first | refine Then.r ?_ | refine InBlk.r ?_)))
    exact ⟨_, rfl, rfl, (List.append_nil _).symm⟩
  · refine ACall.start Try.func121 rfl rfl ?_
    (repeat (first | (with_reducible refine AWo.cons ?_) | ((with_reducible refine Step.id ?_); first | ((with_reducible apply Step.gdT); exact rfl; exact rfl; (focus (rfl))) | ((with_reducible apply Step.move); exact rfl; exact rfl) | ((with_reducible apply Step.assign); exact rfl; exact rfl) | ((with_reducible apply Step.load); exact rfl; (focus (decide +kernel)); exact rfl; (focus (exact Rd.old _ (by assumption)))) | ((with_reducible apply Step.field (k := 3)); exact rfl; (focus (decide +kernel)); exact rfl) | ((with_reducible apply Step.ptrNot); exact rfl; exact rfl; exact un96; exact rfl) | ((with_reducible apply Step.ptrNil); exact rfl; exact rfl; exact un36; exact rfl) | ((with_reducible apply Step.nilp); exact rfl; exact rfl) | ((with_reducible apply Step.pickF); exact rfl; exact rfl; exact rfl; exact rfl; (focus (rfl)))) | (with_reducible refine AWo.nil ?_) | ((with_reducible apply AW.seq)) | ((with_reducible apply Then.n)) | ((with_reducible apply AW.regL))))
    (refine AW.ret ?_; (repeat (first | refine Then.r ?_ | refine InBlk.r ?_)))
    exact ⟨_, rfl, rfl, (List.append_nil _).symm⟩
set_option maxRecDepth 100000 in
theorem Gen_nil {m : AM} {v : Value}  (h : Zr m v 3 (.pointer none)) : ACall Try.prog 54 #[v] m (Ret (.int .i64 0) m) := by
  have c := fun T => lnone_nil (h.old T)
  refine ACall.start Try.func54 rfl rfl ?_
  (repeat (first | (with_reducible refine AWo.cons ?_) | ((with_reducible refine Step.id ?_); first | ((with_reducible apply Step.move); exact rfl; exact rfl) | ((with_reducible apply Step.assign); exact rfl; exact rfl) | ((with_reducible apply Step.callR fit); exact rfl; exact Try.func121; exact rfl; exact rfl; exact (c  _))) | (with_reducible refine AWo.nil ?_) | ((with_reducible apply AW.seq)) | ((with_reducible apply Then.n)) | ((with_reducible apply AW.regL)) | ((with_reducible apply AW.condT); exact rfl; (focus (rfl)))))
  (refine AW.ret ?_; (repeat (first | refine Then.r ?_ | refine InBlk.r ?_)))
  exact ⟨_, rfl, rfl, (List.append_nil _).symm⟩
set_option maxRecDepth 100000 in
theorem Snapshot_nil {m : AM} {v : Value}  (h : Zr m v 3 (.pointer none)) : ACall Try.prog 56 #[v] m (Ret (.slice none 0 0) m) := by
  have c := fun T => lnone_nil (h.old T)
  refine ACall.start Try.func56 rfl rfl ?_
  (repeat (first | (with_reducible refine AWo.cons ?_) | ((with_reducible refine Step.id ?_); first | ((with_reducible apply Step.move); exact rfl; exact rfl) | ((with_reducible apply Step.assign); exact rfl; exact rfl) | ((with_reducible apply Step.callR fit); exact rfl; exact Try.func121; exact rfl; exact rfl; exact (c  _))) | (with_reducible refine AWo.nil ?_) | ((with_reducible apply AW.seq)) | ((with_reducible apply Then.n)) | ((with_reducible apply AW.regL)) | ((with_reducible apply AW.condT); exact rfl; (focus (rfl)))))
  (refine AW.ret ?_; (repeat (first | refine Then.r ?_ | refine InBlk.r ?_)))
  exact ⟨_, rfl, rfl, (List.append_nil _).symm⟩
set_option maxRecDepth 100000 in
theorem Records_nil {m : AM} {v : Value}  (h : Zr m v 3 (.pointer none)) : ACall Try.prog 57 #[v] m (Ret (.slice none 0 0) m) := by
  have c := fun T => lnone_nil (h.old T)
  refine ACall.start Try.func57 rfl rfl ?_
  (repeat (first | (with_reducible refine AWo.cons ?_) | ((with_reducible refine Step.id ?_); first | ((with_reducible apply Step.move); exact rfl; exact rfl) | ((with_reducible apply Step.assign); exact rfl; exact rfl) | ((with_reducible apply Step.callR fit); exact rfl; exact Try.func121; exact rfl; exact rfl; exact (c  _))) | (with_reducible refine AWo.nil ?_) | ((with_reducible apply AW.seq)) | ((with_reducible apply Then.n)) | ((with_reducible apply AW.regL)) | ((with_reducible apply AW.condT); exact rfl; (focus (rfl)))))
  (refine AW.ret ?_; (repeat (first | refine Then.r ?_ | refine InBlk.r ?_)))
  exact ⟨_, rfl, rfl, (List.append_nil _).symm⟩
set_option maxRecDepth 100000 in
theorem ready_nil {m : AM} {v : Value} (w : Value) (h : Zr m v 3 (.pointer none)) : ACall Try.prog 119 #[v, w] m (Ret (.int .i64 1) m) := by
  have c := fun T => lnone_nil (h.old T)
  refine ACall.start Try.func119 rfl rfl ?_
  (repeat (first | (with_reducible refine AWo.cons ?_) | ((with_reducible refine Step.id ?_); first | ((with_reducible apply Step.move); exact rfl; exact rfl) | ((with_reducible apply Step.assign); exact rfl; exact rfl) | ((with_reducible apply Step.callR fit); exact rfl; exact Try.func121; exact rfl; exact rfl; exact (c  _))) | (with_reducible refine AWo.nil ?_) | ((with_reducible apply AW.seq)) | ((with_reducible apply Then.n)) | ((with_reducible apply AW.regL)) | ((with_reducible apply AW.block)) | ((with_reducible apply AW.condT); exact rfl; (focus (rfl)))))
  (refine AW.ret ?_; (repeat (first | refine Then.r ?_ | refine InBlk.r ?_)))
  exact ⟨_, rfl, rfl, (List.append_nil _).symm⟩
set_option maxRecDepth 100000 in
theorem Add_nil {m : AM} {v : Value} (w : Value) (h : Zr m v 3 (.pointer none)) : ACall Try.prog 51 #[v, w] m (Ret (.int .i64 1) m) := by
  have c := fun a0 T => ready_nil a0 (h.old T)
  refine ACall.start Try.func51 rfl rfl ?_
  (repeat (first | (with_reducible refine AWo.cons ?_) | ((with_reducible refine Step.id ?_); first | ((with_reducible apply Step.move); exact rfl; exact rfl) | ((with_reducible apply Step.assign); exact rfl; exact rfl) | ((with_reducible apply Step.neq); exact rfl; exact rfl; exact rfl) | ((with_reducible apply Step.callR fit); exact rfl; exact Try.func119; exact rfl; exact rfl; exact (c _ _))) | (with_reducible refine AWo.nil ?_) | ((with_reducible apply AW.seq)) | ((with_reducible apply Then.n)) | ((with_reducible apply AW.regL)) | ((with_reducible apply AW.condT); exact rfl; (focus (rfl)))))
  (refine AW.ret ?_; (repeat (first | refine Then.r ?_ | refine InBlk.r ?_)))
  exact ⟨_, rfl, rfl, (List.append_nil _).symm⟩
set_option maxRecDepth 100000 in
theorem Rewrite_nil {m : AM} {v : Value} (w : Value) (h : Zr m v 3 (.pointer none)) : ACall Try.prog 60 #[v, w] m (Ret (.int .i64 1) m) := by
  have c := fun a0 T => ready_nil a0 (h.old T)
  refine ACall.start Try.func60 rfl rfl ?_
  (repeat (first | (with_reducible refine AWo.cons ?_) | ((with_reducible refine Step.id ?_); first | ((with_reducible apply Step.move); exact rfl; exact rfl) | ((with_reducible apply Step.assign); exact rfl; exact rfl) | ((with_reducible apply Step.neq); exact rfl; exact rfl; exact rfl) | ((with_reducible apply Step.callR fit); exact rfl; exact Try.func119; exact rfl; exact rfl; exact (c _ _))) | (with_reducible refine AWo.nil ?_) | ((with_reducible apply AW.seq)) | ((with_reducible apply Then.n)) | ((with_reducible apply AW.regL)) | ((with_reducible apply AW.condT); exact rfl; (focus (rfl)))))
  (refine AW.ret ?_; (repeat (first | refine Then.r ?_ | refine InBlk.r ?_)))
  exact ⟨_, rfl, rfl, (List.append_nil _).symm⟩
set_option maxRecDepth 100000 in
theorem bnone_nil {m : AM} {v : Value}  (h : Zr m v 0 (.bool false)) : ACall Try.prog 83 #[v] m (Ret (.bool true) m) := by
  rcases h with rfl | ⟨a, rfl, hr⟩
  · refine ACall.start Try.func83 rfl rfl ?_
    (repeat (first | (with_reducible refine AWo.cons ?_) | ((with_reducible refine Step.id ?_); first | ((with_reducible apply Step.gdF); exact rfl; exact rfl; (focus (rfl))) | ((with_reducible apply Step.move); exact rfl; exact rfl) | ((with_reducible apply Step.assign); exact rfl; exact rfl) | ((with_reducible apply Step.ptrNil); exact rfl; exact rfl; exact un49; exact rfl) | ((with_reducible apply Step.pickT); exact rfl; exact rfl; exact rfl; exact rfl; (focus (rfl)))) | (with_reducible refine AWo.nil ?_) | ((with_reducible apply AW.seq)) | ((with_reducible apply Then.n)) | ((with_reducible apply AW.regL))))
    (refine AW.ret ?_; (repeat (first | refine Then.r ?_ | refine InBlk.r ?_)))
    exact ⟨_, rfl, rfl, (List.append_nil _).symm⟩
  · refine ACall.start Try.func83 rfl rfl ?_
    (repeat (first | (with_reducible refine AWo.cons ?_) | ((with_reducible refine Step.id ?_); first | ((with_reducible apply Step.gdT); exact rfl; exact rfl; (focus (rfl))) | ((with_reducible apply Step.move); exact rfl; exact rfl) | ((with_reducible apply Step.assign); exact rfl; exact rfl) | ((with_reducible apply Step.load); exact rfl; (focus (decide +kernel)); exact rfl; (focus (exact Rd.old _ (by assumption)))) | ((with_reducible apply Step.field0); exact rfl; (focus (decide +kernel)); exact rfl) | ((with_reducible apply Step.ptrNot); exact rfl; exact rfl; exact un49; exact rfl) | ((with_reducible apply Step.not); exact rfl; exact rfl) | ((with_reducible apply Step.nilp); exact rfl; exact rfl) | ((with_reducible apply Step.pickF); exact rfl; exact rfl; exact rfl; exact rfl; (focus (rfl)))) | (with_reducible refine AWo.nil ?_) | ((with_reducible apply AW.seq)) | ((with_reducible apply Then.n)) | ((with_reducible apply AW.regL))))
    (refine AW.ret ?_; (repeat (first | refine Then.r ?_ | refine InBlk.r ?_)))
    exact ⟨_, rfl, rfl, (List.append_nil _).symm⟩
set_option maxRecDepth 100000 in
theorem Post_nil {m : AM} {v : Value} (w : Value) (h : Zr m v 0 (.bool false)) : ACall Try.prog 28 #[v, w] m (Ret (.tuple #[.int .i64 0, .int .i64 1]) m) := by
  have c := fun T => bnone_nil (h.old T)
  refine ACall.start Try.func28 rfl rfl ?_
  (repeat (first | (with_reducible refine AWo.cons ?_) | ((with_reducible refine Step.id ?_); first | ((with_reducible apply Step.move); exact rfl; exact rfl) | ((with_reducible apply Step.assign); exact rfl; exact rfl) | ((with_reducible apply Step.callR fit); exact rfl; exact Try.func83; exact rfl; exact rfl; exact (c  _))) | (with_reducible refine AWo.nil ?_) | ((with_reducible apply AW.seq)) | ((with_reducible apply Then.n)) | ((with_reducible apply AW.regL)) | ((with_reducible apply AW.block)) | ((with_reducible apply AW.condT); exact rfl; (focus (rfl)))))
  (refine AW.ret ?_; (repeat (first | refine Then.r ?_ | refine InBlk.r ?_)))
  exact ⟨_, rfl, rfl, (List.append_nil _).symm⟩
set_option maxRecDepth 100000 in
theorem look_nil {m : AM} {v : Value} (w : Value) (n k : Int) (h : Zr m v 0 (.bool false)) : ACall Try.prog 93 #[v, w, .agg #[.int .i64 n, .int .i64 k]] m (Ret (.tuple #[.int .i64 0, .int .i64 1]) m) := by
  refine ACall.drop (Ren.tupII _ _) ?_
  have c := fun T => bnone_nil (h.old T)
  refine ACall.start Try.func93 rfl rfl ?_
  (repeat (first | (with_reducible refine AWo.cons ?_) | ((with_reducible refine Step.id ?_); first | ((with_reducible apply Step.move); exact rfl; exact rfl) | ((with_reducible apply Step.assign); exact rfl; exact rfl) | ((with_reducible apply Step.callR fit); exact rfl; exact Try.func83; exact rfl; exact rfl; exact (c  _)) | ((with_reducible apply Step.box 0); exact rfl; exact rfl; (focus (kernel_rfl)); exact rfl; (focus (first | (simp only [List.nil_append, List.cons_append, List.set_cons_zero, List.set_cons_succ, iv_set, bv_set, iv_rep, bv_rep]; done) | (simp only [List.nil_append, List.cons_append, List.set_cons_zero, List.set_cons_succ, iv_set, bv_set, iv_rep, bv_rep]; rfl) | rfl)))) | (with_reducible refine AWo.nil ?_) | ((with_reducible apply AW.seq)) | ((with_reducible apply Then.n)) | ((with_reducible apply AW.regL)) | ((with_reducible apply AW.block)) | ((with_reducible apply AW.condT); exact rfl; (focus (rfl)))))
  (refine AW.ret ?_; (repeat (first | refine Then.r ?_ | refine InBlk.r ?_)))
  exact ⟨_, rfl, rfl, _, rfl⟩
set_option maxRecDepth 100000 in
theorem Held_nil {m : AM} {v : Value} (n : Int) (k : Int) (h : Zr m v 0 (.bool false)) : ACall Try.prog 32 #[v, .int .i64 n, .int .i64 k] m (Ret (.tuple #[.int .i64 0, .int .i64 1]) m) := by
  refine ACall.drop (Ren.tupII _ _) ?_
  have c := fun a0 a1 a2 T => look_nil a0 a1 a2 (h.old T)
  clear c
  have h' := h
  rcases h with rfl | ⟨a, rfl, hr⟩
  · have c := fun a0 a1 a2 T => look_nil a0 a1 a2 (h'.old T)
    refine ACall.start Try.func32 rfl rfl ?_
    (repeat (first | (with_reducible refine AWo.cons ?_) | ((with_reducible refine Step.id ?_); first | ((with_reducible apply Step.move); exact rfl; exact rfl) | ((with_reducible apply Step.assign); exact rfl; exact rfl) | ((with_reducible apply Step.load); exact rfl; (focus (decide +kernel)); exact rfl; (focus (exact Rd.new rfl rfl))) | ((with_reducible apply Step.extract); exact rfl; exact rfl; exact rfl) | ((with_reducible apply Step.fn); exact rfl; exact rfl; exact rfl) | ((with_reducible apply Step.callR fit); exact rfl; exact Try.func93; exact rfl; exact rfl; exact (c _ _ _ _)) | ((with_reducible apply Step.box 0); exact rfl; exact rfl; (focus (kernel_rfl)); exact rfl; (focus (first | (simp only [List.nil_append, List.cons_append, List.set_cons_zero, List.set_cons_succ, iv_set, bv_set, iv_rep, bv_rep]; done) | (simp only [List.nil_append, List.cons_append, List.set_cons_zero, List.set_cons_succ, iv_set, bv_set, iv_rep, bv_rep]; rfl) | rfl))) | ((with_reducible apply Step.build); exact rfl; exact bl155; exact rfl)) | (with_reducible refine AWo.nil ?_) | ((with_reducible apply AW.seq)) | ((with_reducible apply Then.n)) | ((with_reducible apply AW.regL))))
    (refine AW.ret ?_; (repeat (first | refine Then.r ?_ | refine InBlk.r ?_)))
    exact ⟨_, rfl, rfl, _, rfl⟩
  · have c := fun a0 a1 a2 T => look_nil a0 a1 a2 (h'.old T)
    refine ACall.start Try.func32 rfl rfl ?_
    (repeat (first | (with_reducible refine AWo.cons ?_) | ((with_reducible refine Step.id ?_); first | ((with_reducible apply Step.move); exact rfl; exact rfl) | ((with_reducible apply Step.assign); exact rfl; exact rfl) | ((with_reducible apply Step.load); exact rfl; (focus (decide +kernel)); exact rfl; (focus (exact Rd.new rfl rfl))) | ((with_reducible apply Step.extract); exact rfl; exact rfl; exact rfl) | ((with_reducible apply Step.fn); exact rfl; exact rfl; exact rfl) | ((with_reducible apply Step.callR fit); exact rfl; exact Try.func93; exact rfl; exact rfl; exact (c _ _ _ _)) | ((with_reducible apply Step.box 0); exact rfl; exact rfl; (focus (kernel_rfl)); exact rfl; (focus (first | (simp only [List.nil_append, List.cons_append, List.set_cons_zero, List.set_cons_succ, iv_set, bv_set, iv_rep, bv_rep]; done) | (simp only [List.nil_append, List.cons_append, List.set_cons_zero, List.set_cons_succ, iv_set, bv_set, iv_rep, bv_rep]; rfl) | rfl))) | ((with_reducible apply Step.build); exact rfl; exact bl155; exact rfl)) | (with_reducible refine AWo.nil ?_) | ((with_reducible apply AW.seq)) | ((with_reducible apply Then.n)) | ((with_reducible apply AW.regL))))
    (refine AW.ret ?_; (repeat (first | refine Then.r ?_ | refine InBlk.r ?_)))
    exact ⟨_, rfl, rfl, _, rfl⟩
set_option maxRecDepth 100000 in
theorem Changed_nil {m : AM} {v : Value} (n : Int) (k : Int) (h : Zr m v 0 (.bool false)) : ACall Try.prog 98 #[v, .int .i64 n, .int .i64 k] m (Ret (.tuple #[.int .i64 0, .int .i64 1]) m) := by
  refine ACall.drop (Ren.tupII _ _) ?_
  have c := fun a0 a1 a2 T => look_nil a0 a1 a2 (h.old T)
  clear c
  have h' := h
  rcases h with rfl | ⟨a, rfl, hr⟩
  · have c := fun a0 a1 a2 T => look_nil a0 a1 a2 (h'.old T)
    refine ACall.start Try.func98 rfl rfl ?_
    (repeat (first | (with_reducible refine AWo.cons ?_) | ((with_reducible refine Step.id ?_); first | ((with_reducible apply Step.move); exact rfl; exact rfl) | ((with_reducible apply Step.assign); exact rfl; exact rfl) | ((with_reducible apply Step.load); exact rfl; (focus (decide +kernel)); exact rfl; (focus (exact Rd.new rfl rfl))) | ((with_reducible apply Step.extract); exact rfl; exact rfl; exact rfl) | ((with_reducible apply Step.fn); exact rfl; exact rfl; exact rfl) | ((with_reducible apply Step.callR fit); exact rfl; exact Try.func93; exact rfl; exact rfl; exact (c _ _ _ _)) | ((with_reducible apply Step.box 0); exact rfl; exact rfl; (focus (kernel_rfl)); exact rfl; (focus (first | (simp only [List.nil_append, List.cons_append, List.set_cons_zero, List.set_cons_succ, iv_set, bv_set, iv_rep, bv_rep]; done) | (simp only [List.nil_append, List.cons_append, List.set_cons_zero, List.set_cons_succ, iv_set, bv_set, iv_rep, bv_rep]; rfl) | rfl))) | ((with_reducible apply Step.build); exact rfl; exact bl155; exact rfl)) | (with_reducible refine AWo.nil ?_) | ((with_reducible apply AW.seq)) | ((with_reducible apply Then.n)) | ((with_reducible apply AW.regL))))
    (refine AW.ret ?_; (repeat (first | refine Then.r ?_ | refine InBlk.r ?_)))
    exact ⟨_, rfl, rfl, _, rfl⟩
  · have c := fun a0 a1 a2 T => look_nil a0 a1 a2 (h'.old T)
    refine ACall.start Try.func98 rfl rfl ?_
    (repeat (first | (with_reducible refine AWo.cons ?_) | ((with_reducible refine Step.id ?_); first | ((with_reducible apply Step.move); exact rfl; exact rfl) | ((with_reducible apply Step.assign); exact rfl; exact rfl) | ((with_reducible apply Step.load); exact rfl; (focus (decide +kernel)); exact rfl; (focus (exact Rd.new rfl rfl))) | ((with_reducible apply Step.extract); exact rfl; exact rfl; exact rfl) | ((with_reducible apply Step.fn); exact rfl; exact rfl; exact rfl) | ((with_reducible apply Step.callR fit); exact rfl; exact Try.func93; exact rfl; exact rfl; exact (c _ _ _ _)) | ((with_reducible apply Step.box 0); exact rfl; exact rfl; (focus (kernel_rfl)); exact rfl; (focus (first | (simp only [List.nil_append, List.cons_append, List.set_cons_zero, List.set_cons_succ, iv_set, bv_set, iv_rep, bv_rep]; done) | (simp only [List.nil_append, List.cons_append, List.set_cons_zero, List.set_cons_succ, iv_set, bv_set, iv_rep, bv_rep]; rfl) | rfl))) | ((with_reducible apply Step.build); exact rfl; exact bl155; exact rfl)) | (with_reducible refine AWo.nil ?_) | ((with_reducible apply AW.seq)) | ((with_reducible apply Then.n)) | ((with_reducible apply AW.regL))))
    (refine AW.ret ?_; (repeat (first | refine Then.r ?_ | refine InBlk.r ?_)))
    exact ⟨_, rfl, rfl, _, rfl⟩
set_option maxRecDepth 100000 in
theorem Total_nil {m : AM} {v : Value} (n : Int) (h : Zr m v 0 (.bool false)) : ACall Try.prog 43 #[v, .int .i64 n] m (Ret (.tuple #[.int .i64 0, .int .i64 1]) m) := by
  have c := fun T => bnone_nil (h.old T)
  refine ACall.start Try.func43 rfl rfl ?_
  (repeat (first | (with_reducible refine AWo.cons ?_) | ((with_reducible refine Step.id ?_); first | ((with_reducible apply Step.move); exact rfl; exact rfl) | ((with_reducible apply Step.assign); exact rfl; exact rfl) | ((with_reducible apply Step.callR fit); exact rfl; exact Try.func83; exact rfl; exact rfl; exact (c  _))) | (with_reducible refine AWo.nil ?_) | ((with_reducible apply AW.seq)) | ((with_reducible apply Then.n)) | ((with_reducible apply AW.regL)) | ((with_reducible apply AW.block)) | ((with_reducible apply AW.condT); exact rfl; (focus (rfl)))))
  (refine AW.ret ?_; (repeat (first | refine Then.r ?_ | refine InBlk.r ?_)))
  exact ⟨_, rfl, rfl, (List.append_nil _).symm⟩
set_option maxRecDepth 100000 in
theorem Find_nil {m : AM} {v : Value} (n : Int) (h : Zr m v 0 (.bool false)) : ACall Try.prog 40 #[v, .int .i64 n] m (Ret (.tuple #[.slice none 0 0, .int .i64 1]) m) := by
  have c := fun T => bnone_nil (h.old T)
  refine ACall.start Try.func40 rfl rfl ?_
  (repeat (first | (with_reducible refine AWo.cons ?_) | ((with_reducible refine Step.id ?_); first | ((with_reducible apply Step.move); exact rfl; exact rfl) | ((with_reducible apply Step.assign); exact rfl; exact rfl) | ((with_reducible apply Step.callR fit); exact rfl; exact Try.func83; exact rfl; exact rfl; exact (c  _))) | (with_reducible refine AWo.nil ?_) | ((with_reducible apply AW.seq)) | ((with_reducible apply Then.n)) | ((with_reducible apply AW.regL)) | ((with_reducible apply AW.block)) | ((with_reducible apply AW.condT); exact rfl; (focus (rfl)))))
  (refine AW.ret ?_; (repeat (first | refine Then.r ?_ | refine InBlk.r ?_)))
  exact ⟨_, rfl, rfl, (List.append_nil _).symm⟩
set_option maxRecDepth 100000 in
theorem Reverse_nil {m : AM} {v : Value} (n : Int) (h : Zr m v 0 (.bool false)) : ACall Try.prog 42 #[v, .int .i64 n] m (Ret (.tuple #[.int .i64 0, .int .i64 1]) m) := by
  have c := fun a0 T => Find_nil a0 (h.old T)
  refine ACall.start Try.func42 rfl rfl ?_
  (repeat (first | (with_reducible refine AWo.cons ?_) | ((with_reducible refine Step.id ?_); first | ((with_reducible apply Step.move); exact rfl; exact rfl) | ((with_reducible apply Step.assign); exact rfl; exact rfl) | ((with_reducible apply Step.neq); exact rfl; exact rfl; exact rfl) | ((with_reducible apply Step.extract); exact rfl; exact rfl; exact rfl) | ((with_reducible apply Step.callR fit); exact rfl; exact Try.func40; exact rfl; exact rfl; exact (c _ _))) | (with_reducible refine AWo.nil ?_) | ((with_reducible apply AW.seq)) | ((with_reducible apply Then.n)) | ((with_reducible apply AW.regL)) | ((with_reducible apply AW.condT); exact rfl; (focus (rfl)))))
  (refine AW.ret ?_; (repeat (first | refine Then.r ?_ | refine InBlk.r ?_)))
  exact ⟨_, rfl, rfl, (List.append_nil _).symm⟩
set_option maxRecDepth 100000 in
theorem Last_nil {m : AM} {v : Value}  (h : Zr m v 0 (.bool false)) : ACall Try.prog 39 #[v] m (Ret (.int .i64 0) m) := by
  have c := fun T => bnone_nil (h.old T)
  refine ACall.start Try.func39 rfl rfl ?_
  (repeat (first | (with_reducible refine AWo.cons ?_) | ((with_reducible refine Step.id ?_); first | ((with_reducible apply Step.move); exact rfl; exact rfl) | ((with_reducible apply Step.assign); exact rfl; exact rfl) | ((with_reducible apply Step.callR fit); exact rfl; exact Try.func83; exact rfl; exact rfl; exact (c  _))) | (with_reducible refine AWo.nil ?_) | ((with_reducible apply AW.seq)) | ((with_reducible apply Then.n)) | ((with_reducible apply AW.regL)) | ((with_reducible apply AW.condT); exact rfl; (focus (rfl)))))
  (refine AW.ret ?_; (repeat (first | refine Then.r ?_ | refine InBlk.r ?_)))
  exact ⟨_, rfl, rfl, (List.append_nil _).symm⟩
set_option maxRecDepth 100000 in
theorem Save_nil {m : AM} {v : Value}  (h : Zr m v 0 (.bool false)) : ACall Try.prog 36 #[v] m (Ret (.slice none 0 0) m) := by
  have c := fun T => bnone_nil (h.old T)
  refine ACall.start Try.func36 rfl rfl ?_
  (repeat (first | (with_reducible refine AWo.cons ?_) | ((with_reducible refine Step.id ?_); first | ((with_reducible apply Step.move); exact rfl; exact rfl) | ((with_reducible apply Step.assign); exact rfl; exact rfl) | ((with_reducible apply Step.callR fit); exact rfl; exact Try.func83; exact rfl; exact rfl; exact (c  _))) | (with_reducible refine AWo.nil ?_) | ((with_reducible apply AW.seq)) | ((with_reducible apply Then.n)) | ((with_reducible apply AW.regL)) | ((with_reducible apply AW.condT); exact rfl; (focus (rfl)))))
  (refine AW.ret ?_; (repeat (first | refine Then.r ?_ | refine InBlk.r ?_)))
  exact ⟨_, rfl, rfl, (List.append_nil _).symm⟩
set_option maxRecDepth 100000 in
theorem Begin_nil {m : AM} {v : Value}  (h : Zr m v 0 (.bool false)) : ACall Try.prog 30 #[v] m (Ret (.pointer none) m) := by
  have c := fun T => bnone_nil (h.old T)
  refine ACall.start Try.func30 rfl rfl ?_
  (repeat (first | (with_reducible refine AWo.cons ?_) | ((with_reducible refine Step.id ?_); first | ((with_reducible apply Step.move); exact rfl; exact rfl) | ((with_reducible apply Step.assign); exact rfl; exact rfl) | ((with_reducible apply Step.callR fit); exact rfl; exact Try.func83; exact rfl; exact rfl; exact (c  _))) | (with_reducible refine AWo.nil ?_) | ((with_reducible apply AW.seq)) | ((with_reducible apply Then.n)) | ((with_reducible apply AW.regL)) | ((with_reducible apply AW.condT); exact rfl; (focus (rfl)))))
  (refine AW.ret ?_; (repeat (first | refine Then.r ?_ | refine InBlk.r ?_)))
  exact ⟨_, rfl, rfl, (List.append_nil _).symm⟩
set_option maxRecDepth 100000 in
theorem busy_nil {m : AM} {v : Value}  (h : Zr m v 0 (.pointer none)) : ACall Try.prog 91 #[v] m (Ret (.int .i64 1) m) := by
  rcases h with rfl | ⟨a, rfl, hr⟩
  · refine ACall.start Try.func91 rfl rfl ?_
    (repeat (first | (with_reducible refine AWo.cons ?_) | ((with_reducible refine Step.id ?_); first | ((with_reducible apply Step.gdF); exact rfl; exact rfl; (focus (rfl))) | ((with_reducible apply Step.move); exact rfl; exact rfl) | ((with_reducible apply Step.assign); exact rfl; exact rfl) | ((with_reducible apply Step.ptrNil); exact rfl; exact rfl; exact un57; exact rfl) | ((with_reducible apply Step.pickT); exact rfl; exact rfl; exact rfl; exact rfl; (focus (rfl)))) | (with_reducible refine AWo.nil ?_) | ((with_reducible apply AW.seq)) | ((with_reducible apply Then.n)) | ((with_reducible apply AW.regL)) | ((with_reducible apply AW.block)) | ((with_reducible apply AW.condT); exact rfl; (focus (rfl)))))
    (refine AW.ret ?_; (repeat (first | refine Then.r ?_ | refine InBlk.r ?_)))
    exact ⟨_, rfl, rfl, (List.append_nil _).symm⟩
  · refine ACall.start Try.func91 rfl rfl ?_
    (repeat (first | (with_reducible refine AWo.cons ?_) | ((with_reducible refine Step.id ?_); first | ((with_reducible apply Step.gdT); exact rfl; exact rfl; (focus (rfl))) | ((with_reducible apply Step.move); exact rfl; exact rfl) | ((with_reducible apply Step.assign); exact rfl; exact rfl) | ((with_reducible apply Step.load); exact rfl; (focus (decide +kernel)); exact rfl; (focus (exact Rd.old _ (by assumption)))) | ((with_reducible apply Step.field0); exact rfl; (focus (decide +kernel)); exact rfl) | ((with_reducible apply Step.ptrNot); exact rfl; exact rfl; exact un57; exact rfl) | ((with_reducible apply Step.ptrNil); exact rfl; exact rfl; exact un49; exact rfl) | ((with_reducible apply Step.nilp); exact rfl; exact rfl) | ((with_reducible apply Step.pickF); exact rfl; exact rfl; exact rfl; exact rfl; (focus (rfl)))) | (with_reducible refine AWo.nil ?_) | ((with_reducible apply AW.seq)) | ((with_reducible apply Then.n)) | ((with_reducible apply AW.regL)) | ((with_reducible apply AW.block)) | ((with_reducible apply AW.condT); exact rfl; (focus (rfl)))))
    (refine AW.ret ?_; (repeat (first | refine Then.r ?_ | refine InBlk.r ?_)))
    exact ⟨_, rfl, rfl, (List.append_nil _).symm⟩
set_option maxRecDepth 100000 in
theorem CHeld_nil {m : AM} {v : Value} (n : Int) (k : Int) (h : Zr m v 0 (.pointer none)) : ACall Try.prog 31 #[v, .int .i64 n, .int .i64 k] m (Ret (.tuple #[.int .i64 0, .int .i64 1]) m) := by
  have c := fun T => busy_nil (h.old T)
  refine ACall.start Try.func31 rfl rfl ?_
  (repeat (first | (with_reducible refine AWo.cons ?_) | ((with_reducible refine Step.id ?_); first | ((with_reducible apply Step.move); exact rfl; exact rfl) | ((with_reducible apply Step.assign); exact rfl; exact rfl) | ((with_reducible apply Step.neq); exact rfl; exact rfl; exact rfl) | ((with_reducible apply Step.callR fit); exact rfl; exact Try.func91; exact rfl; exact rfl; exact (c  _))) | (with_reducible refine AWo.nil ?_) | ((with_reducible apply AW.seq)) | ((with_reducible apply Then.n)) | ((with_reducible apply AW.regL)) | ((with_reducible apply AW.condT); exact rfl; (focus (rfl)))))
  (refine AW.ret ?_; (repeat (first | refine Then.r ?_ | refine InBlk.r ?_)))
  exact ⟨_, rfl, rfl, (List.append_nil _).symm⟩
set_option maxRecDepth 100000 in
theorem Commit_nil {m : AM} {v : Value}  (h : Zr m v 0 (.pointer none)) : ACall Try.prog 41 #[v] m (Ret (.tuple #[.int .i64 0, .int .i64 1]) m) := by
  have c := fun T => busy_nil (h.old T)
  refine ACall.start Try.func41 rfl rfl ?_
  (repeat (first | (with_reducible refine AWo.cons ?_) | ((with_reducible refine Step.id ?_); first | ((with_reducible apply Step.move); exact rfl; exact rfl) | ((with_reducible apply Step.assign); exact rfl; exact rfl) | ((with_reducible apply Step.neq); exact rfl; exact rfl; exact rfl) | ((with_reducible apply Step.callR fit); exact rfl; exact Try.func91; exact rfl; exact rfl; exact (c  _))) | (with_reducible refine AWo.nil ?_) | ((with_reducible apply AW.seq)) | ((with_reducible apply Then.n)) | ((with_reducible apply AW.regL)) | ((with_reducible apply AW.condT); exact rfl; (focus (rfl)))))
  (refine AW.ret ?_; (repeat (first | refine Then.r ?_ | refine InBlk.r ?_)))
  exact ⟨_, rfl, rfl, (List.append_nil _).symm⟩
set_option maxRecDepth 100000 in
theorem Move_nil {m : AM} {v : Value} (x y z n : Int) (h : Zr m v 0 (.pointer none)) : ACall Try.prog 33 #[v, .agg #[.int .i64 x, .int .i64 y, .int .i64 z, .int .i64 n]] m (Ret (.int .i64 1) m) := by
  refine ACall.drop (.int _ _) ?_
  have c := fun T => busy_nil (h.old T)
  refine ACall.start Try.func33 rfl rfl ?_
  (repeat (first | (with_reducible refine AWo.cons ?_) | ((with_reducible refine Step.id ?_); first | ((with_reducible apply Step.move); exact rfl; exact rfl) | ((with_reducible apply Step.assign); exact rfl; exact rfl) | ((with_reducible apply Step.neq); exact rfl; exact rfl; exact rfl) | ((with_reducible apply Step.callR fit); exact rfl; exact Try.func91; exact rfl; exact rfl; exact (c  _)) | ((with_reducible apply Step.box 0); exact rfl; exact rfl; (focus (kernel_rfl)); exact rfl; (focus (first | (simp only [List.nil_append, List.cons_append, List.set_cons_zero, List.set_cons_succ, iv_set, bv_set, iv_rep, bv_rep]; done) | (simp only [List.nil_append, List.cons_append, List.set_cons_zero, List.set_cons_succ, iv_set, bv_set, iv_rep, bv_rep]; rfl) | rfl)))) | (with_reducible refine AWo.nil ?_) | ((with_reducible apply AW.seq)) | ((with_reducible apply Then.n)) | ((with_reducible apply AW.regL)) | ((with_reducible apply AW.block)) | ((with_reducible apply AW.condT); exact rfl; (focus (rfl)))))
  (refine AW.ret ?_; (repeat (first | refine Then.r ?_ | refine InBlk.r ?_)))
  exact ⟨_, rfl, rfl, _, rfl⟩
set_option maxRecDepth 100000 in
theorem Drop_nil {m : AM} {v : Value}  (h : Zr m v 0 (.pointer none)) : ACall Try.prog 69 #[v] m (Ret (.int .i64 1) m) := by
  have c := fun T => busy_nil (h.old T)
  refine ACall.start Try.func69 rfl rfl ?_
  (repeat (first | (with_reducible refine AWo.cons ?_) | ((with_reducible refine Step.id ?_); first | ((with_reducible apply Step.move); exact rfl; exact rfl) | ((with_reducible apply Step.assign); exact rfl; exact rfl) | ((with_reducible apply Step.neq); exact rfl; exact rfl; exact rfl) | ((with_reducible apply Step.callR fit); exact rfl; exact Try.func91; exact rfl; exact rfl; exact (c  _))) | (with_reducible refine AWo.nil ?_) | ((with_reducible apply AW.seq)) | ((with_reducible apply Then.n)) | ((with_reducible apply AW.regL)) | ((with_reducible apply AW.condT); exact rfl; (focus (rfl)))))
  (refine AW.ret ?_; (repeat (first | refine Then.r ?_ | refine InBlk.r ?_)))
  exact ⟨_, rfl, rfl, (List.append_nil _).symm⟩
end Go.Proofs.Ytabdnepfcohncaa.Abs
namespace Go.Proofs.Ytabdnepfcohncaa.Abs
set_option linter.unusedSimpArgs false
set_option linter.unusedVariables false
open Go.RowKit
open Go.Proofs.Ytabdnepfcohncaa.Sim
open Go.Proofs
set_option maxHeartbeats 4000000 in
set_option maxRecDepth 100000 in
theorem nobody_ok {m : AM} {v : Value} (n : Int) (h : Zr m v 0 (.bool false)) : ACall Try.prog 68 #[v, .int .i64 n] m (Ret (.bool true) m) := by
  have c1 := fun w T => Post_nil w (h.old T)
  have c2 := fun T => Held_nil n n (h.old T)
  have c3 := fun T => Changed_nil n n (h.old T)
  have c4 := fun T => Total_nil n (h.old T)
  have c5 := fun T => Find_nil n (h.old T)
  have c6 := fun T => Reverse_nil n (h.old T)
  have c7 := fun T => Last_nil (h.old T)
  have c8 := fun T => Save_nil (h.old T)
  have c9 := fun T => Begin_nil (h.old T)
  refine ACall.start Try.func68 rfl rfl ?_
  (repeat (first | (with_reducible refine AWo.cons ?_) | ((with_reducible refine Step.id ?_); first | ((with_reducible apply Step.gdT); exact rfl; exact rfl; (focus (rfl))) | ((with_reducible apply Step.move); exact rfl; exact rfl) | ((with_reducible apply Step.assign); exact rfl; exact rfl) | ((with_reducible apply Step.ptrNil); exact rfl; exact rfl; exact un57; exact rfl) | ((with_reducible apply Step.add); exact rfl; exact rfl; (focus (omega)); exact rfl) | ((with_reducible apply Step.eql); exact rfl; exact rfl; exact rfl) | ((with_reducible apply Step.len); exact rfl; (focus (exact Sl.nil 0 0)); (focus (decide +kernel)); exact rfl) | ((with_reducible apply Step.extract); exact rfl; exact rfl; exact rfl) | ((with_reducible apply Step.pickT); exact rfl; exact rfl; exact rfl; exact rfl; (focus (rfl))) | ((with_reducible apply Step.callR fit); exact rfl; exact Try.func28; exact rfl; exact rfl; exact (c1 _ _)) | ((with_reducible apply Step.callR fit); exact rfl; exact Try.func32; exact rfl; exact rfl; exact (c2 _)) | ((with_reducible apply Step.callR fit); exact rfl; exact Try.func98; exact rfl; exact rfl; exact (c3 _)) | ((with_reducible apply Step.callR fit); exact rfl; exact Try.func43; exact rfl; exact rfl; exact (c4 _)) | ((with_reducible apply Step.callR fit); exact rfl; exact Try.func40; exact rfl; exact rfl; exact (c5 _)) | ((with_reducible apply Step.callR fit); exact rfl; exact Try.func42; exact rfl; exact rfl; exact (c6 _)) | ((with_reducible apply Step.callR fit); exact rfl; exact Try.func39; exact rfl; exact rfl; exact (c7 _)) | ((with_reducible apply Step.callR fit); exact rfl; exact Try.func36; exact rfl; exact rfl; exact (c8 _)) | ((with_reducible apply Step.callR fit); exact rfl; exact Try.func30; exact rfl; exact rfl; exact (c9 _))) | (with_reducible refine AWo.nil ?_) | ((with_reducible apply AW.seq)) | ((with_reducible apply Then.n)) | ((with_reducible apply AW.regL))))
  (refine AW.ret ?_; (repeat (first | refine Then.r ?_ | refine InBlk.r ?_)))
  exact ⟨_, rfl, rfl, (List.append_nil _).symm⟩
theorem bl120z : abuild Try.prog 120 [] = some (.agg #[.bool false, .bool false, .int .i64 0, .slice none 0 0, .int .i64 0, .slice none 0 0, .int .i64 0, .int .i64 0]) := by kernel_rfl
theorem bl126z : abuild Try.prog 126 [] = some (.agg #[.int .i64 0, .slice none 0 0, .slice none 0 0, .pointer none, .int .i64 0, .bool false]) := by kernel_rfl
def bookC : List Value := [.bool false] ++ List.replicate 512 (.int .i64 0) ++ [.slice none 0 0]
def clerkC : List Value := [.pointer none, .int .i64 0] ++ List.replicate 256 (.int .i64 0) ++ [.map none, .slice none 0 0, .bool false]
theorem bl133z : abuild Try.prog 133 [] = some (.agg bookC.toArray) := by kernel_rfl
theorem bl138z : abuild Try.prog 138 [] = some (.agg clerkC.toArray) := by kernel_rfl
theorem bl63 {n : Int} : abuild Try.prog 63 [(3, .int .i64 n)] = some (.agg #[.int .i64 0, .int .i64 0, .int .i64 0, .int .i64 n]) := by kernel_rfl
theorem bs121 {m : AM} {k a : Nat} : abuildSlice Try.prog m k 121 2 [(0, .pointer none), (1, .pointer (some ⟨a, 0, none⟩))] = some (.slice (some ⟨k, 0, none⟩) 2 2, m.set k (some { cells := [.pointer none, .pointer (some ⟨a, 0, none⟩)] })) := by kernel_rfl
theorem bs127 {m : AM} {k a : Nat} : abuildSlice Try.prog m k 127 2 [(0, .pointer none), (1, .pointer (some ⟨a, 0, none⟩))] = some (.slice (some ⟨k, 0, none⟩) 2 2, m.set k (some { cells := [.pointer none, .pointer (some ⟨a, 0, none⟩)] })) := by kernel_rfl
theorem bs134 {m : AM} {k a : Nat} : abuildSlice Try.prog m k 134 2 [(0, .pointer none), (1, .pointer (some ⟨a, 0, none⟩))] = some (.slice (some ⟨k, 0, none⟩) 2 2, m.set k (some { cells := [.pointer none, .pointer (some ⟨a, 0, none⟩)] })) := by kernel_rfl
theorem bs84 {m : AM} {k a : Nat} : abuildSlice Try.prog m k 84 2 [(0, .pointer none), (1, .pointer (some ⟨a, 0, none⟩))] = some (.slice (some ⟨k, 0, none⟩) 2 2, m.set k (some { cells := [.pointer none, .pointer (some ⟨a, 0, none⟩)] })) := by kernel_rfl
theorem book0 : bookC[0]? = some (.bool false) := by kernel_rfl
theorem clerk0 : clerkC[0]? = some (.pointer none) := by kernel_rfl
def dC : List Value := [.bool false, .bool false, .int .i64 0, .slice none 0 0, .int .i64 0, .slice none 0 0, .int .i64 0, .int .i64 0]
def lC : List Value := [.int .i64 0, .slice none 0 0, .slice none 0 0, .pointer none, .int .i64 0, .bool false]
def two (a : Nat) : Option Blk := some { cells := [.pointer none, .pointer (some ⟨a, 0, none⟩)] }
/-- The receivers of the law: nil, and a block that no call made. -/
theorem two_at {m : AM} {k : Nat} (hk : k < 2) {L : AM} {q o : Nat} {c : List Value} {x : Value} (h0 : L[q]? = some (some { cells := c })) (h1 : L[q + 1]? = some (two (m.length + q))) (hx : c[o]? = some x) :
    ∃ v, (∀ T, Rd (m ++ (L ++ T)) (m.length + (q + 1)) k v) ∧ ∀ T, Zr (m ++ (L ++ T)) v o x := by
  have g0 : ∀ T, (m ++ (L ++ T))[m.length + q]? = some (some { cells := c }) := fun T => by rw [get_app, List.getElem?_append_left (List.getElem?_eq_some_iff.1 h0).1]; exact h0
  have g1 : ∀ T, (m ++ (L ++ T))[m.length + (q + 1)]? = some (two (m.length + q)) := fun T => by rw [get_app, List.getElem?_append_left (List.getElem?_eq_some_iff.1 h1).1]; exact h1
  rcases (show k = 0 ∨ k = 1 by omega) with rfl | rfl
  · exact ⟨.pointer none, fun T => ⟨_, g1 T, rfl⟩, fun T => .inl rfl⟩
  · exact ⟨.pointer (some ⟨m.length + q, 0, none⟩), fun T => ⟨_, g1 T, rfl⟩, fun T => .inr ⟨_, rfl, ⟨_, g0 T, hx⟩⟩⟩
set_option maxHeartbeats 16000000 in
set_option maxRecDepth 100000 in
theorem StockNobody_ok {m : AM} (hw : ∀ M : AM, ACall Try.prog 16 #[] M (Ret (.bool true) M)) (n : Int) (w : Value) : ACall Try.prog 15 #[.int .i64 n, w] m (Ret (.bool true) m) := by
  refine ACall.drop (.bool _) ?_
  refine ACall.start Try.func15 rfl rfl ?_
  (repeat (first | (with_reducible refine AWo.cons ?_) | ((with_reducible refine Step.id ?_); first | ((with_reducible apply Step.move); exact rfl; exact rfl) | ((with_reducible apply Step.assign); exact rfl; exact rfl) | ((with_reducible apply Step.len); exact rfl; (focus (exact Sl.mk (by omega))); (focus (decide +kernel)); exact rfl) | ((with_reducible apply Step.box 0); exact rfl; exact rfl; (focus (kernel_rfl)); exact rfl; (focus (first | (simp only [List.nil_append, List.cons_append, List.set_cons_zero, List.set_cons_succ, iv_set, bv_set, iv_rep, bv_rep]; done) | (simp only [List.nil_append, List.cons_append, List.set_cons_zero, List.set_cons_succ, iv_set, bv_set, iv_rep, bv_rep]; rfl) | rfl))) | ((with_reducible apply Step.buildS 1); exact rfl; exact rfl; exact (fun _ _ => bs121); exact rfl; (focus (first | (simp only [List.nil_append, List.cons_append, List.set_cons_zero, List.set_cons_succ, iv_set, bv_set, iv_rep, bv_rep]; done) | (simp only [List.nil_append, List.cons_append, List.set_cons_zero, List.set_cons_succ, iv_set, bv_set, iv_rep, bv_rep]; rfl) | rfl))) | ((with_reducible apply Step.build); exact rfl; exact bl120z; exact rfl)) | (with_reducible refine AWo.nil ?_) | ((with_reducible apply AW.seq)) | ((with_reducible apply Then.n)) | ((with_reducible apply AW.regL)) | ((with_reducible apply AW.block))))
  refine AW.loopT (fun r t L => ∃ k : Nat, r = 2 - k ∧ k ≤ 2 ∧ L = [some { cells := dC }, two (m.length + 0)] ∧ t = [(0, .int .i64 n), (1, w), (23, .slice (some ⟨m.length + 1, 0, none⟩) 2 2), (24, .int .i64 2), (25, .int .i64 (k : Nat))])
    ⟨_, _, _, (Or.inl ⟨rfl, (by repeat (first | exact trivial | (refine And.intro rfl ?_)))⟩), 0, rfl, by omega, rfl, rfl⟩ ?_
  rintro r t L ⟨k, rfl, hk, rfl, rfl⟩
  rcases Nat.lt_or_ge k 2 with hlt | hge
  · obtain ⟨v, hv, hz⟩ := two_at (m := m) (q := 0) (o := 7) (L := [some { cells := dC }, two (m.length + 0)]) hlt rfl rfl rfl
    have c1 := fun T => Fuse_nil n (hz T)
    have c2 := fun T => Crash_nil n n (hz T)
    have c3 := fun T => Read_nil n (hz T)
    have c4 := fun T => Open_nil (hz T)
    have c5 := fun T => Append_nil n w (hz T)
    have c6 := fun T => Sync_nil n (hz T)
    have c7 := fun T => Clear_nil n (hz T)
    (repeat (first | (with_reducible refine AWo.cons ?_) | ((with_reducible refine Step.id ?_); first | ((with_reducible apply Step.gdT); exact rfl; exact rfl; (focus (rfl))) | ((with_reducible apply Step.move); exact rfl; exact rfl) | ((with_reducible apply Step.assign); exact rfl; exact rfl) | ((with_reducible apply Step.load); exact rfl; (focus (decide +kernel)); exact rfl; (focus (exact hv []))) | ((with_reducible apply Step.ix1z); exact rfl; (focus (exact Sl.mk (by omega))); exact rfl; (focus (decide +kernel)); exact rfl; (focus (omega))) | ((with_reducible apply Step.ptrNilN); exact rfl; exact rfl; exact un96; exact rfl) | ((with_reducible apply Step.add); exact rfl; exact rfl; (focus (omega)); exact rfl) | ((with_reducible apply Step.lss); exact rfl; exact rfl; exact rfl) | ((with_reducible apply Step.gtr); exact rfl; exact rfl; exact rfl) | ((with_reducible apply Step.neq); exact rfl; exact rfl; exact rfl) | ((with_reducible apply Step.len); exact rfl; (focus (exact Sl.nil 0 0)); (focus (decide +kernel)); exact rfl) | ((with_reducible apply Step.extract); exact rfl; exact rfl; exact rfl) | ((with_reducible apply Step.pickF); exact rfl; exact rfl; exact rfl; exact rfl; (focus (rfl))) | ((with_reducible apply Step.callR fit); exact rfl; exact Try.func58; exact rfl; exact rfl; exact (c1 [])) | ((with_reducible apply Step.callR fit); exact rfl; exact Try.func52; exact rfl; exact rfl; exact (c2 [])) | ((with_reducible apply Step.callR fit); exact rfl; exact Try.func53; exact rfl; exact rfl; exact (c3 [])) | ((with_reducible apply Step.callR fit); exact rfl; exact Try.func50; exact rfl; exact rfl; exact (c4 [])) | ((with_reducible apply Step.callR fit); exact rfl; exact Try.func48; exact rfl; exact rfl; exact (c5 [])) | ((with_reducible apply Step.callR fit); exact rfl; exact Try.func66; exact rfl; exact rfl; exact (c6 [])) | ((with_reducible apply Step.callR fit); exact rfl; exact Try.func67; exact rfl; exact rfl; exact (c7 []))) | (with_reducible refine AWo.nil ?_) | ((with_reducible apply AW.seq)) | ((with_reducible apply Then.n)) | ((with_reducible apply AW.regL)) | ((with_reducible apply AW.block)) | ((with_reducible apply InBlk.n)) | ((with_reducible apply AW.skip)) | ((with_reducible apply AW.condT); exact rfl; (focus ((simp only [decide_eq_true_eq, decide_eq_false_iff_not, Bool.not_eq_true', Bool.not_eq_false', Bool.not_true, Bool.not_false]; first | assumption | omega)))) | ((with_reducible apply AW.condF); exact rfl; (focus (rfl)))))
    exact ⟨_, _, _, by omega, (Or.inl ⟨rfl, (by repeat (first | exact trivial | (refine And.intro rfl ?_)))⟩), k + 1, rfl, by omega, rfl, rfl⟩
  obtain rfl : k = 2 := by omega
  (repeat (first | (with_reducible refine AWo.cons ?_) | ((with_reducible refine Step.id ?_); first | ((with_reducible apply Step.move); exact rfl; exact rfl) | ((with_reducible apply Step.lss); exact rfl; exact rfl; exact rfl) | ((with_reducible apply Step.len); exact rfl; (focus (exact Sl.mk (by omega))); (focus (decide +kernel)); exact rfl) | ((with_reducible apply Step.box 2); exact rfl; exact rfl; (focus (kernel_rfl)); exact rfl; (focus (first | (simp only [List.nil_append, List.cons_append, List.set_cons_zero, List.set_cons_succ, iv_set, bv_set, iv_rep, bv_rep]; done) | (simp only [List.nil_append, List.cons_append, List.set_cons_zero, List.set_cons_succ, iv_set, bv_set, iv_rep, bv_rep]; rfl) | rfl))) | ((with_reducible apply Step.buildS 3); exact rfl; exact rfl; exact (fun _ _ => bs127); exact rfl; (focus (first | (simp only [List.nil_append, List.cons_append, List.set_cons_zero, List.set_cons_succ, iv_set, bv_set, iv_rep, bv_rep]; done) | (simp only [List.nil_append, List.cons_append, List.set_cons_zero, List.set_cons_succ, iv_set, bv_set, iv_rep, bv_rep]; rfl) | rfl))) | ((with_reducible apply Step.build); exact rfl; exact bl126z; exact rfl)) | (with_reducible refine AWo.nil ?_) | ((with_reducible apply AW.seq)) | ((with_reducible apply Then.n)) | ((with_reducible apply AW.regL)) | ((with_reducible apply AW.block)) | ((with_reducible apply AW.exit)) | ((with_reducible apply InBlk.hit)) | ((with_reducible apply Then.e)) | ((with_reducible apply AW.condF); exact rfl; (focus (rfl)))))
  refine AW.loopT (fun r t L => ∃ k : Nat, r = 2 - k ∧ k ≤ 2 ∧ L = [some { cells := dC }, two (m.length + 0), some { cells := lC }, two (m.length + 2)] ∧ t = [(0, .int .i64 n), (1, w), (84, .slice (some ⟨m.length + 3, 0, none⟩) 2 2), (85, .int .i64 2), (86, .int .i64 (k : Nat))])
    ⟨_, _, _, (Or.inl ⟨rfl, (by repeat (first | exact trivial | (refine And.intro rfl ?_)))⟩), 0, rfl, by omega, rfl, rfl⟩ ?_
  rintro r t L ⟨k, rfl, hk, rfl, rfl⟩
  rcases Nat.lt_or_ge k 2 with hlt | hge
  · obtain ⟨v, hv, hz⟩ := two_at (m := m) (q := 2) (o := 3) (L := [some { cells := dC }, two (m.length + 0), some { cells := lC }, two (m.length + 2)]) hlt rfl rfl rfl
    have c1 := fun T => Gen_nil (hz T)
    have c2 := fun T => Snapshot_nil (hz T)
    have c3 := fun T => Records_nil (hz T)
    have c4 := fun T => Add_nil w (hz T)
    have c5 := fun T => Rewrite_nil w (hz T)
    (repeat (first | (with_reducible refine AWo.cons ?_) | ((with_reducible refine Step.id ?_); first | ((with_reducible apply Step.gdT); exact rfl; exact rfl; (focus (rfl))) | ((with_reducible apply Step.move); exact rfl; exact rfl) | ((with_reducible apply Step.assign); exact rfl; exact rfl) | ((with_reducible apply Step.load); exact rfl; (focus (decide +kernel)); exact rfl; (focus (exact hv []))) | ((with_reducible apply Step.ix1z); exact rfl; (focus (exact Sl.mk (by omega))); exact rfl; (focus (decide +kernel)); exact rfl; (focus (omega))) | ((with_reducible apply Step.add); exact rfl; exact rfl; (focus (omega)); exact rfl) | ((with_reducible apply Step.lss); exact rfl; exact rfl; exact rfl) | ((with_reducible apply Step.neq); exact rfl; exact rfl; exact rfl) | ((with_reducible apply Step.len); exact rfl; (focus (exact Sl.nil 0 0)); (focus (decide +kernel)); exact rfl) | ((with_reducible apply Step.pickF); exact rfl; exact rfl; exact rfl; exact rfl; (focus (rfl))) | ((with_reducible apply Step.callR fit); exact rfl; exact Try.func54; exact rfl; exact rfl; exact (c1 [])) | ((with_reducible apply Step.callR fit); exact rfl; exact Try.func56; exact rfl; exact rfl; exact (c2 [])) | ((with_reducible apply Step.callR fit); exact rfl; exact Try.func57; exact rfl; exact rfl; exact (c3 [])) | ((with_reducible apply Step.callR fit); exact rfl; exact Try.func51; exact rfl; exact rfl; exact (c4 [])) | ((with_reducible apply Step.callR fit); exact rfl; exact Try.func60; exact rfl; exact rfl; exact (c5 []))) | (with_reducible refine AWo.nil ?_) | ((with_reducible apply AW.seq)) | ((with_reducible apply Then.n)) | ((with_reducible apply AW.regL)) | ((with_reducible apply AW.block)) | ((with_reducible apply InBlk.n)) | ((with_reducible apply AW.skip)) | ((with_reducible apply AW.condT); exact rfl; (focus ((simp only [decide_eq_true_eq, decide_eq_false_iff_not, Bool.not_eq_true', Bool.not_eq_false', Bool.not_true, Bool.not_false]; first | assumption | omega)))) | ((with_reducible apply AW.condF); exact rfl; (focus (rfl)))))
    exact ⟨_, _, _, by omega, (Or.inl ⟨rfl, (by repeat (first | exact trivial | (refine And.intro rfl ?_)))⟩), k + 1, rfl, by omega, rfl, rfl⟩
  obtain rfl : k = 2 := by omega
  (repeat (first | (with_reducible refine AWo.cons ?_) | ((with_reducible refine Step.id ?_); first | ((with_reducible apply Step.move); exact rfl; exact rfl) | ((with_reducible apply Step.lss); exact rfl; exact rfl; exact rfl) | ((with_reducible apply Step.len); exact rfl; (focus (exact Sl.mk (by omega))); (focus (decide +kernel)); exact rfl) | ((with_reducible apply Step.box 4); exact rfl; exact rfl; (focus (kernel_rfl)); exact rfl; (focus (first | (simp only [List.nil_append, List.cons_append, List.set_cons_zero, List.set_cons_succ, iv_set, bv_set, iv_rep, bv_rep]; done) | (simp only [List.nil_append, List.cons_append, List.set_cons_zero, List.set_cons_succ, iv_set, bv_set, iv_rep, bv_rep]; rfl) | rfl))) | ((with_reducible apply Step.buildS 5); exact rfl; exact rfl; exact (fun _ _ => bs134); exact rfl; (focus (first | (simp only [List.nil_append, List.cons_append, List.set_cons_zero, List.set_cons_succ, iv_set, bv_set, iv_rep, bv_rep]; done) | (simp only [List.nil_append, List.cons_append, List.set_cons_zero, List.set_cons_succ, iv_set, bv_set, iv_rep, bv_rep]; rfl) | rfl))) | ((with_reducible apply Step.build); exact rfl; exact bl133z; exact rfl)) | (with_reducible refine AWo.nil ?_) | ((with_reducible apply AW.seq)) | ((with_reducible apply Then.n)) | ((with_reducible apply AW.regL)) | ((with_reducible apply AW.block)) | ((with_reducible apply AW.exit)) | ((with_reducible apply InBlk.hit)) | ((with_reducible apply Then.e)) | ((with_reducible apply AW.condF); exact rfl; (focus (rfl)))))
  refine AW.loopT (fun r t L => ∃ k : Nat, r = 2 - k ∧ k ≤ 2 ∧ L = [some { cells := dC }, two (m.length + 0), some { cells := lC }, two (m.length + 2), some { cells := bookC }, two (m.length + 4)] ∧ t = [(0, .int .i64 n), (1, w), (118, .slice (some ⟨m.length + 5, 0, none⟩) 2 2), (119, .int .i64 2), (120, .int .i64 (k : Nat))])
    ⟨_, _, _, (Or.inl ⟨rfl, (by repeat (first | exact trivial | (refine And.intro rfl ?_)))⟩), 0, rfl, by omega, rfl, rfl⟩ ?_
  rintro r t L ⟨k, rfl, hk, rfl, rfl⟩
  rcases Nat.lt_or_ge k 2 with hlt | hge
  · obtain ⟨v, hv, hz⟩ := two_at (m := m) (q := 4) (o := 0) (L := [some { cells := dC }, two (m.length + 0), some { cells := lC }, two (m.length + 2), some { cells := bookC }, two (m.length + 4)]) hlt rfl rfl book0
    have c1 := fun T => nobody_ok n (hz T)
    (repeat (first | (with_reducible refine AWo.cons ?_) | ((with_reducible refine Step.id ?_); first | ((with_reducible apply Step.move); exact rfl; exact rfl) | ((with_reducible apply Step.assign); exact rfl; exact rfl) | ((with_reducible apply Step.load); exact rfl; (focus (decide +kernel)); exact rfl; (focus (exact hv []))) | ((with_reducible apply Step.ix1z); exact rfl; (focus (exact Sl.mk (by omega))); exact rfl; (focus (decide +kernel)); exact rfl; (focus (omega))) | ((with_reducible apply Step.add); exact rfl; exact rfl; (focus (omega)); exact rfl) | ((with_reducible apply Step.lss); exact rfl; exact rfl; exact rfl) | ((with_reducible apply Step.not); exact rfl; exact rfl) | ((with_reducible apply Step.callR fit); exact rfl; exact Try.func68; exact rfl; exact rfl; exact (c1 []))) | (with_reducible refine AWo.nil ?_) | ((with_reducible apply AW.seq)) | ((with_reducible apply Then.n)) | ((with_reducible apply AW.regL)) | ((with_reducible apply AW.block)) | ((with_reducible apply InBlk.n)) | ((with_reducible apply AW.skip)) | ((with_reducible apply AW.condT); exact rfl; (focus ((simp only [decide_eq_true_eq, decide_eq_false_iff_not, Bool.not_eq_true', Bool.not_eq_false', Bool.not_true, Bool.not_false]; first | assumption | omega)))) | ((with_reducible apply AW.condF); exact rfl; (focus (rfl)))))
    exact ⟨_, _, _, by omega, (Or.inl ⟨rfl, (by repeat (first | exact trivial | (refine And.intro rfl ?_)))⟩), k + 1, rfl, by omega, rfl, rfl⟩
  obtain rfl : k = 2 := by omega
  (repeat (first | (with_reducible refine AWo.cons ?_) | ((with_reducible refine Step.id ?_); first | ((with_reducible apply Step.move); exact rfl; exact rfl) | ((with_reducible apply Step.lss); exact rfl; exact rfl; exact rfl) | ((with_reducible apply Step.len); exact rfl; (focus (exact Sl.mk (by omega))); (focus (decide +kernel)); exact rfl) | ((with_reducible apply Step.box 6); exact rfl; exact rfl; (focus (kernel_rfl)); exact rfl; (focus (first | (simp only [List.nil_append, List.cons_append, List.set_cons_zero, List.set_cons_succ, iv_set, bv_set, iv_rep, bv_rep]; done) | (simp only [List.nil_append, List.cons_append, List.set_cons_zero, List.set_cons_succ, iv_set, bv_set, iv_rep, bv_rep]; rfl) | rfl))) | ((with_reducible apply Step.buildS 7); exact rfl; exact rfl; exact (fun _ _ => bs84); exact rfl; (focus (first | (simp only [List.nil_append, List.cons_append, List.set_cons_zero, List.set_cons_succ, iv_set, bv_set, iv_rep, bv_rep]; done) | (simp only [List.nil_append, List.cons_append, List.set_cons_zero, List.set_cons_succ, iv_set, bv_set, iv_rep, bv_rep]; rfl) | rfl))) | ((with_reducible apply Step.build); exact rfl; exact bl138z; exact rfl)) | (with_reducible refine AWo.nil ?_) | ((with_reducible apply AW.seq)) | ((with_reducible apply Then.n)) | ((with_reducible apply AW.regL)) | ((with_reducible apply AW.block)) | ((with_reducible apply AW.exit)) | ((with_reducible apply InBlk.hit)) | ((with_reducible apply Then.e)) | ((with_reducible apply AW.condF); exact rfl; (focus (rfl)))))
  refine AW.loopT (fun r t L => ∃ k : Nat, r = 2 - k ∧ k ≤ 2 ∧ L = [some { cells := dC }, two (m.length + 0), some { cells := lC }, two (m.length + 2), some { cells := bookC }, two (m.length + 4), some { cells := clerkC }, two (m.length + 6)] ∧ t = [(0, .int .i64 n), (1, w), (131, .slice (some ⟨m.length + 7, 0, none⟩) 2 2), (132, .int .i64 2), (133, .int .i64 (k : Nat))])
    ⟨_, _, _, (Or.inl ⟨rfl, (by repeat (first | exact trivial | (refine And.intro rfl ?_)))⟩), 0, rfl, by omega, rfl, rfl⟩ ?_
  rintro r t L ⟨k, rfl, hk, rfl, rfl⟩
  rcases Nat.lt_or_ge k 2 with hlt | hge
  · obtain ⟨v, hv, hz⟩ := two_at (m := m) (q := 6) (o := 0) (L := [some { cells := dC }, two (m.length + 0), some { cells := lC }, two (m.length + 2), some { cells := bookC }, two (m.length + 4), some { cells := clerkC }, two (m.length + 6)]) hlt rfl rfl clerk0
    have c1 := fun T => CHeld_nil n n (hz T)
    have c2 := fun T => Commit_nil (hz T)
    have c3 := fun T => Move_nil 0 0 0 n (hz T)
    have c4 := fun T => Drop_nil (hz T)
    (repeat (first | (with_reducible refine AWo.cons ?_) | ((with_reducible refine Step.id ?_); first | ((with_reducible apply Step.gdT); exact rfl; exact rfl; (focus (rfl))) | ((with_reducible apply Step.move); exact rfl; exact rfl) | ((with_reducible apply Step.assign); exact rfl; exact rfl) | ((with_reducible apply Step.load); exact rfl; (focus (decide +kernel)); exact rfl; (focus (exact hv []))) | ((with_reducible apply Step.ix1z); exact rfl; (focus (exact Sl.mk (by omega))); exact rfl; (focus (decide +kernel)); exact rfl; (focus (omega))) | ((with_reducible apply Step.add); exact rfl; exact rfl; (focus (omega)); exact rfl) | ((with_reducible apply Step.lss); exact rfl; exact rfl; exact rfl) | ((with_reducible apply Step.neq); exact rfl; exact rfl; exact rfl) | ((with_reducible apply Step.extract); exact rfl; exact rfl; exact rfl) | ((with_reducible apply Step.pickF); exact rfl; exact rfl; exact rfl; exact rfl; (focus (rfl))) | ((with_reducible apply Step.callR fit); exact rfl; exact Try.func31; exact rfl; exact rfl; exact (c1 [])) | ((with_reducible apply Step.callR fit); exact rfl; exact Try.func41; exact rfl; exact rfl; exact (c2 [])) | ((with_reducible apply Step.callR fit); exact rfl; exact Try.func33; exact rfl; exact rfl; exact (c3 [])) | ((with_reducible apply Step.callR fit); exact rfl; exact Try.func69; exact rfl; exact rfl; exact (c4 [])) | ((with_reducible apply Step.build); exact rfl; exact bl63; exact rfl)) | (with_reducible refine AWo.nil ?_) | ((with_reducible apply AW.seq)) | ((with_reducible apply Then.n)) | ((with_reducible apply AW.regL)) | ((with_reducible apply AW.block)) | ((with_reducible apply InBlk.n)) | ((with_reducible apply AW.skip)) | ((with_reducible apply AW.condT); exact rfl; (focus ((simp only [decide_eq_true_eq, decide_eq_false_iff_not, Bool.not_eq_true', Bool.not_eq_false', Bool.not_true, Bool.not_false]; first | assumption | omega)))) | ((with_reducible apply AW.condF); exact rfl; (focus (rfl)))))
    exact ⟨_, _, _, by omega, (Or.inl ⟨rfl, (by repeat (first | exact trivial | (refine And.intro rfl ?_)))⟩), k + 1, rfl, by omega, rfl, rfl⟩
  obtain rfl : k = 2 := by omega
  (repeat (first | (with_reducible refine AWo.cons ?_) | ((with_reducible refine Step.id ?_); first | ((with_reducible apply Step.assign); exact rfl; exact rfl) | ((with_reducible apply Step.lss); exact rfl; exact rfl; exact rfl) | ((with_reducible apply Step.callR fit); exact rfl; exact Try.func16; exact rfl; exact rfl; exact (hw _))) | (with_reducible refine AWo.nil ?_) | ((with_reducible apply AW.seq)) | ((with_reducible apply Then.n)) | ((with_reducible apply AW.regL)) | ((with_reducible apply AW.exit)) | ((with_reducible apply InBlk.hit)) | ((with_reducible apply Then.e)) | ((with_reducible apply AW.condF); exact rfl; (focus (rfl)))))
  (refine AW.ret ?_; (repeat (first | refine Then.r ?_ | refine InBlk.r ?_)))
  exact ⟨_, rfl, rfl, _, rfl⟩
end Go.Proofs.Ytabdnepfcohncaa.Abs
namespace Go.Proofs.Ytabdnepfcohncaa.Abs
set_option linter.unusedSimpArgs false
set_option linter.unusedVariables false
open Go.RowKit
open Go.Proofs.Ytabdnepfcohncaa.Sim
open Go.ChangeShapes Go.WideShapes Go.Deep
/-- An argument with the cells that it shows. -/
abbrev AR := Value × List Value
def Okarg (W : World) (a : AR) : Prop := g0 a.1 = true ∨ ∃ b o n cap, a.1 = .slice (some ⟨b, o, none⟩) n cap ∧ n ≤ cap ∧ b < W.heap.size ∧ (∀ j x, a.2[j]? = some x → W.cell? ⟨b, o + j, none⟩ = some x) ∧ ∀ x ∈ a.2, g0 x = true
def mkV (i : Nat) : Value → Value
  | .slice (some _) n _ => .slice (some ⟨i, 0, none⟩) n n
  | v => v
def mkP : AR → Option Sim.Place
  | (.slice (some a) n cap, _) => some ⟨a.block, a.off, cap - n⟩
  | _ => none
def mkB : AR → Option Blk
  | (.slice (some _) _ _, c) => some { cells := c, kind := .ro }
  | _ => none
def mkVs : Nat → List AR → List Value
  | _, [] => []
  | i, a :: l => mkV i a.1 :: mkVs (i + 1) l
theorem mkVs_get : ∀ (l : List AR) (i k : Nat), (mkVs i l)[k]? = (l[k]?).map fun a => mkV (i + k) a.1
  | [], i, k => by simp [mkVs]
  | a :: l, i, 0 => by simp [mkVs]
  | a :: l, i, k + 1 => by simp only [mkVs, List.getElem?_cons_succ, mkVs_get l (i + 1) k]; congr 1; funext x; congr 1; omega
theorem mkVs_len : ∀ (l : List AR) (i : Nat), (mkVs i l).length = l.length
  | [], _ => rfl
  | a :: l, i => by simp [mkVs, mkVs_len l (i + 1)]
theorem top_call {P : Program} {f : FuncId} {W : World} (ars : List AR) (h : ∀ a ∈ ars, Okarg W a) (hc : ACall P f (mkVs 0 ars).toArray (ars.map mkB) (Ret (.bool true) (ars.map mkB))) :
    Calls P f (ars.map (·.1)).toArray W fun e w' => e = .returned (.bool true) ∧ Below W.heap.size W w' := by
  let R : Pl := fun i => (ars[i]?).bind mkP
  have hm : MRep W.heap.size R (ars.map mkB) W := by
    refine ⟨fun i hi => ?_, fun i b hi => ?_, fun i j b c p q hi hj hb _ _ _ _ => ?_⟩
    · simp only [List.length_map] at hi
      simp [R, List.getElem?_eq_none hi]
    · rw [List.getElem?_map] at hi
      cases ha : ars[i]? with
      | none => rw [ha] at hi; cases hi
      | some a =>
        rw [ha] at hi
        simp only [Option.map_some, Option.some.injEq] at hi
        obtain ⟨v, c⟩ := a
        rcases h _ (List.mem_of_getElem? ha) with h1 | ⟨bb, o, n, cap, h1, h2, h3, h4, h5⟩
        · simp only at h1
          cases v with
          | slice x n cap => cases x with
            | none => simp [mkB] at hi
            | some x => simp [g0] at h1
          | _ => simp [mkB] at hi
        · simp only at h1
          subst h1
          simp only [mkB, Option.some.injEq] at hi
          subst hi
          refine ⟨⟨bb, o, cap - n⟩, by simp [R, ha, mkP], h3, ?_⟩
          refine ⟨fun e => by simp at e, fun j x hj => ⟨x, h4 j x hj, g0_rel (h5 x (List.mem_of_getElem? hj))⟩⟩
    · rw [List.getElem?_map] at hi
      cases ha : ars[i]? with
      | none => rw [ha] at hi; cases hi
      | some a =>
        rw [ha] at hi
        simp only [Option.map_some, Option.some.injEq] at hi
        obtain ⟨v, c'⟩ := a
        cases v with
        | slice x n cap => cases x with
          | none => simp [mkB] at hi
          | some x => simp only [mkB, Option.some.injEq] at hi; subst hi; cases hb
        | _ => simp [mkB] at hi
  have hargs : Rels R (mkVs 0 ars).toArray (ars.map (·.1)).toArray := by
    refine ⟨by simp [mkVs_len], fun i hi => ?_⟩
    simp only [List.size_toArray, mkVs_len] at hi
    have ha : ars[i]? = some ars[i] := List.getElem?_eq_getElem hi
    have e1 : (mkVs 0 ars).toArray.getD i undef = mkV i ars[i].1 := by
      simp [mkVs_get, ha]
    have e2 : (ars.map (·.1)).toArray.getD i undef = ars[i].1 := by simp [hi]
    rw [e1, e2]
    generalize ars[i] = a at ha
    obtain ⟨v, c⟩ := a
    rcases h _ (List.mem_of_getElem? ha) with h1 | ⟨bb, o, n, cap, h1, h2, h3, h4, h5⟩
    · simp only at h1 ⊢
      cases v with
      | slice x n cap => cases x with
        | none => exact g0_rel h1
        | some x => simp [g0] at h1
      | _ => exact g0_rel h1
    · simp only at h1 ⊢
      subst h1
      have := Rel.slice (R := R) i 0 n n ⟨bb, o, cap - n⟩ (by simp [R, ha, mkP]) (Nat.le_refl _)
      rw [show n + (cap - n) = cap by omega] at this
      simpa [mkV] using this
  refine (hc W.heap.size R W _ (Nat.le_refl _) hm hargs).mono ?_
  rintro e w' ⟨v, v', R', m', rfl, k1, k2, rfl, rfl⟩
  cases k1
  exact ⟨rfl, k2.below hm (Nat.le_refl _)⟩
section
variable {H : Type} {enc : TypeId × Value → H} {P : Program} {w : World} {base : Nat} {spare : Nat → Bool} {held : Bool}
theorem ok_slice {r : Reach} {b0 : Nat} {T e : TypeId} {a : Option Addr} {n c : Nat} (ht : P.underlying T = some (.slice e)) (h : Value.okWide P w r b0 T (.slice a n c)) : (a = none ∧ n = 0 ∧ c = 0) ∨ ∃ b o, a = some ⟨b, o, none⟩ ∧ n ≤ c ∧ b < w.heap.size := by
  simp only [Value.okWide, ht, Cell.okWide, Cell.ok] at h
  cases a with
  | none =>
    cases n <;> cases c <;> simp_all
  | some x =>
    obtain ⟨h1, _, h3⟩ := h
    obtain ⟨_, hs, row, cells, hsh, _⟩ := h3
    obtain ⟨b, o, s⟩ := x
    simp only at hs
    subst hs
    refine .inr ⟨b, o, rfl, h1, ?_⟩
    simp only [World.shape?] at hsh
    rcases Nat.lt_or_ge b w.heap.size with hlt | hge
    · exact hlt
    · rw [Array.getElem?_eq_none hge] at hsh; cases hsh
end
end Go.Proofs.Ytabdnepfcohncaa.Abs
namespace Go.Proofs.Ytabdnepfcohncaa.Abs
set_option linter.unusedSimpArgs false
set_option linter.unusedVariables false
open Go.RowKit
open Go.Proofs.Ytabdnepfcohncaa.Sim
open Go.ChangeShapes Go.WideShapes Go.Deep
section
variable {H : Type} {enc : TypeId × Value → H} {P : Program} {w : World} {base : Nat} {spare : Nat → Bool} {held : Bool}
theorem arg_bytes {r : Reach} {b0 : Nat} {T e : TypeId} {a : Option Addr} {n c : Nat} {d : DataW H} {p : List MemPlace} (ht : P.underlying T = some (.slice e)) (he : P.underlying e = some (.int .u8)) (hce : P.cellsOf e = 1) (hok : Value.okWide P w r b0 T (.slice a n c)) (h : DataW.Trod enc P w base spare held T (.slice a n c) d p) :
    ∃ l : List UInt8, l.length = n ∧ n ≤ maxLen ∧ Okarg w (.slice a n c, by8 l) ∧ (∀ M : AM, ∀ i, M[i]? = some (mkB (.slice a n c, by8 l)) → Sl (mkV i (.slice a n c)) i 0 n ∧ i < M.length ∧ (0 < n → RdL M i 0 (by8 l))) := by
  obtain ⟨fuel, h⟩ := h
  rcases ok_slice ht hok with ⟨rfl, rfl, rfl⟩ | ⟨b, o, rfl, hle, hlt⟩
  · exact ⟨[], rfl, by unfold maxLen; omega, .inl rfl, fun M i hi => ⟨.inl ⟨rfl, rfl⟩, (List.getElem?_eq_some_iff.1 hi).1, fun h => by omega⟩⟩
  · rcases open_ints ht he hce h with ⟨hcs, _⟩ | ⟨x, l, c', zs, hcs, _, hl, hm, hz, _, hcell, hwz⟩
    · simp [Value.cells] at hcs
    · simp [Value.cells] at hcs
      obtain ⟨rfl, rfl, rfl⟩ := hcs
      have hzl : n ≤ zs.length := by rw [hz]; split <;> omega
      have hlen : ((zs.take n).map fun z => UInt8.ofNat z.toNat).length = n := by simp; omega
      refine ⟨(zs.take n).map fun z => UInt8.ofNat z.toNat, hlen, by omega, .inr ⟨b, o, n, c, rfl, hle, hlt, fun j x hj => ?_, g0_by8 _⟩, fun M i hi => ?_⟩
      · by_cases hjn : j < n
        · have hjz : j < zs.length := by omega
          rw [by8_get (by rw [hlen]; exact hjn)] at hj
          injection hj with hj
          have := hcell j hjz
          rw [Addr.add_lit] at this
          rw [this, ← hj]
          have hb := bounds_u8 (hwz _ (List.getElem_mem hjz))
          have h1 : (UInt8.ofNat zs[j].toNat).toNat = zs[j].toNat := by
            rw [UInt8.toNat_ofNat']; exact Nat.mod_eq_of_lt (by omega)
          simp only [List.getElem_map, List.getElem_take]
          rw [h1, List.getD_eq_getElem?_getD, List.getElem?_eq_getElem hjz, Option.getD_some]
          congr 2
          omega
        · rw [List.getElem?_eq_none (by rw [by8_len, hlen]; omega)] at hj
          cases hj
      · simp only [mkB] at hi
        exact ⟨Sl.mk (Nat.le_refl _), (List.getElem?_eq_some_iff.1 hi).1, fun _ => ⟨_, hi, fun j v hj => by rw [Nat.zero_add]; exact hj⟩⟩
end
end Go.Proofs.Ytabdnepfcohncaa.Abs
