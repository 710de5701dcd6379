import Derived.Test.YtmomjannlnafcaaAbs4
namespace Go.Proofs.Ytmomjannlnafcaa.Abs
set_option linter.unusedSimpArgs false
set_option linter.unusedVariables false
open Go.RowKit
open Go.Proofs.Ytmomjannlnafcaa.Sim
/-! ### operations that write or make memory; memory as M ++ L: L holds the call's own blocks -/
theorem set_app {α : Type} (M L : List α) (k : Nat) (x : α) : (M ++ L).set (M.length + k) x = M ++ L.set k x := by
  rw [List.set_append_right _ _ (by omega)]; congr 1; rw [Nat.add_sub_cancel_left]
theorem get_app {α : Type} (M L : List α) (k : Nat) : (M ++ L)[M.length + k]? = L[k]? := by
  rw [List.getElem?_append_right (by omega)]; congr 1; omega
theorem get_old {α : Type} {M : List α} (L : List α) {a : Nat} {x : α} (h : M[a]? = some x) : (M ++ L)[a]? = some x := by
  rw [List.getElem?_append_left (List.getElem?_eq_some_iff.1 h).1]; exact h
theorem Rd.old {M : AM} (L : AM) {a o : Nat} {v : Value} (h : Rd M a o v) : Rd (M ++ L) a o v := by
  obtain ⟨b, h1, h2⟩ := h
  exact ⟨b, get_old L h1, h2⟩
theorem Rd.new {M L : AM} {k o : Nat} {b : Blk} {v : Value} (h : L[k]? = some (some b)) (hv : b.cells[o]? = some v) : Rd (M ++ L) (M.length + k) o v :=
  ⟨b, by rw [get_app]; exact h, hv⟩
section
variable {P : Program} {nt : Nat} {ops : Array Oper} {t : Fm} {m : AM} {K : Fm → AM → Prop} {d T : Nat} {p : String} {af : Array Edge}
theorem loudN {o : Oper} {ev : Operand → Value} {K : Value → AM → Prop} {v : Value} {M L L' : AM} {k : Nat} (hk : L.length = k) (hn : needsNew o.op = true) (h : aloud P o ev ((M ++ L) ++ [none]) (M.length + k) = some (v, M ++ L')) (hK : K v (M ++ L')) : Loud P o ev (M ++ L) K :=
  loud_of_aloud hn (by rw [List.length_append, hk]; exact h) hK
theorem set_new_at {α : Type} (M L : List α) {k : Nat} (hk : L.length = k) (x y : α) : ((M ++ L) ++ [y]).set (M.length + k) x = M ++ (L ++ [x]) := by
  rw [List.append_assoc, set_app, List.set_append_right _ _ (by omega)]
  simp [hk]
/-- A new variable. -/
theorem Step.alloc {ty : TypeId} {z : Array Value} {M L L' : AM} (k : Nat) (hk : L.length = k) (hz : zeroB P ty = some z) (hlt : Nat.blt d nt = true) (hL : L ++ [some { cells := z.toList }] = L') (hK : K (put t d (.pointer (some ⟨M.length + k, 0, none⟩))) (M ++ L')) :
    Step P nt ops ⟨some d, .alloc ty, T, p, af, none⟩ t (M ++ L) K := by
  subst hL
  refine .l rfl rfl hlt rfl (by simp [Op.operands]) (loudN hk rfl (v := .pointer (some ⟨M.length + k, 0, none⟩)) ?_ hK)
  simp [aloud, hz, set_new_at M L hk, -List.append_assoc]
/-- A new variable with a value. -/
theorem Step.box {x : Operand} {ty : TypeId} {v : Value} {M L L' : AM} (k : Nat) (hk : L.length = k) (hx : evo t x = some v) (h1 : v.cells.all (·.oneCell') = true) (hlt : Nat.blt d nt = true) (hL : L ++ [some { cells := v.cells.toList }] = L') (hK : K (put t d (.pointer (some ⟨M.length + k, 0, none⟩))) (M ++ L')) :
    Step P nt ops ⟨some d, .box ty x, T, p, af, none⟩ t (M ++ L) K := by
  subst hL
  refine .l rfl rfl hlt rfl (by simp [Op.operands, hx]) (loudN hk rfl (v := .pointer (some ⟨M.length + k, 0, none⟩)) ?_ hK)
  simp only [aloud, evD_of hx]
  rw [if_pos h1, set_new_at M L hk]
theorem Step.make {x y : Operand} {X : TypeId} {n : Nat} {kx ky : IntKind} {e : TypeId} {s by_ : Nat} {z : Array Value} {M L L' : AM} (k : Nat) (hk : L.length = k) (hx : evo t x = some (.int kx ((n : Nat) : Int))) (hy : evo t y = some (.int ky ((n : Nat) : Int))) (he : elemB P X = some (e, s, by_, z)) (hb : by_ * n ≤ 281474976710656 ∧ n ≤ 9223372036854775807 ∧ s ≠ 0)
    (hlt : Nat.blt d nt = true) (hL : L ++ [some { cells := (madeCells z (n * s)).toList }] = L') (hK : K (put t d (.slice (some ⟨M.length + k, 0, none⟩) n n)) (M ++ L')) :
    Step P nt ops ⟨some d, .makeSlice X x y, T, p, af, none⟩ t (M ++ L) K := by
  subst hL
  refine .l rfl rfl hlt rfl (by simp [Op.operands, hx, hy]) (loudN hk rfl (v := .slice (some ⟨M.length + k, 0, none⟩) n n) ?_ hK)
  obtain ⟨b1, b2, b3⟩ := hb
  simp only [aloud, evD_of hx, evD_of hy, amake, he]
  rw [if_pos ⟨by omega, by omega, by omega, by omega, b3⟩, set_new_at M L hk]
  simp
theorem madeCells_one (v : Value) (n : Nat) : (madeCells #[v] (n * 1)).toList = List.replicate n v := by
  apply List.ext_getElem?
  intro i
  simp only [madeCells, Array.toList_map, Nat.mul_one, List.getElem?_map, List.getElem?_replicate, Array.getElem?_toList]
  by_cases h : i < n
  · simp [h, Nat.mod_one]
  · simp [h]
/-- make of a slice of one-cell elements. -/
theorem Step.make1 {x y : Operand} {X : TypeId} {n : Nat} {kx ky : IntKind} {e : TypeId} {by_ : Nat} {z : Value} {M L L' : AM} (k : Nat) (hk : L.length = k) (hx : evo t x = some (.int kx ((n : Nat) : Int))) (hy : evo t y = some (.int ky ((n : Nat) : Int))) (he : elemB P X = some (e, 1, by_, #[z])) (hb : by_ * n ≤ 281474976710656 ∧ n ≤ 9223372036854775807)
    (hlt : Nat.blt d nt = true) (hL : L ++ [some { cells := List.replicate n z }] = L') (hK : K (put t d (.slice (some ⟨M.length + k, 0, none⟩) n n)) (M ++ L')) :
    Step P nt ops ⟨some d, .makeSlice X x y, T, p, af, none⟩ t (M ++ L) K :=
  .make k hk hx hy he ⟨hb.1, hb.2, by omega⟩ hlt (by rw [madeCells_one]; exact hL) hK
/-- A store into a block of one's own: one cell. -/
theorem Step.store {x y : Operand} {ty : TypeId} {k o : Nat} {v : Value} {b : Blk} {M L L' : AM} (hx : evo t x = some (.pointer (some ⟨M.length + k, o, none⟩))) (hy : evo t y = some v) (hb : L[k]? = some (some b)) (hs : b.kind.solid = true) (hz : szB P ty = some 1) (hc : v.cells = #[v]) (h1 : v.oneCell' = true) (ho : o < b.cells.length)
    (hL : L.set k (some { b with cells := b.cells.set o v }) = L') (hK : K t (M ++ L')) : Step P nt ops ⟨none, .store ty x y, T, p, af, none⟩ t (M ++ L) K := by
  subst hL
  refine .l0 rfl rfl rfl (by simp [Op.operands, hx, hy]) (loud_of_aloud0 (v := undef) (m' := M ++ L.set k (some { b with cells := b.cells.set o v })) rfl ?_ hK)
  have hsp : splice b.cells o [v] = b.cells.set o v := by
    unfold splice
    rw [List.set_eq_take_append_cons_drop]
    simp [ho]
  simp only [aloud, evD_of hx, evD_of hy, astore, get_app, hb, hz, hc]
  rw [if_pos (by simp [hs, h1]; omega)]
  simp [set_app, hsp]
/-- A store of a struct's cells. -/
theorem Step.stores {x y : Operand} {ty : TypeId} {k o n : Nat} {v : Value} {b : Blk} {M L L' : AM} (hx : evo t x = some (.pointer (some ⟨M.length + k, o, none⟩))) (hy : evo t y = some v) (hb : L[k]? = some (some b)) (hs : b.kind.solid = true) (hz : szB P ty = some n) (hc : v.cells.size = n) (h1 : v.cells.all (·.oneCell') = true) (ho : o + n ≤ b.cells.length)
    (hL : L.set k (some { b with cells := splice b.cells o v.cells.toList }) = L') (hK : K t (M ++ L')) : Step P nt ops ⟨none, .store ty x y, T, p, af, none⟩ t (M ++ L) K := by
  subst hL
  refine .l0 rfl rfl rfl (by simp [Op.operands, hx, hy]) (loud_of_aloud0 (v := undef) (m' := M ++ L.set k (some { b with cells := splice b.cells o v.cells.toList })) rfl ?_ hK)
  simp only [aloud, evD_of hx, evD_of hy, astore, get_app, hb, hz]
  rw [if_pos (by rw [h1]; simp [hs, hc]; omega)]
  simp [set_app]
/-- A call of a function of the program. -/
theorem Step.call {x : Operand} {args : Array Operand} {tys : Array TypeId} {g : FuncId} {f c : Array Value} {vs : List Value} {fn : Func} {b : Code} {m : AM} {Q : Value → AM → Prop} (hP : Fit P) (hx : evo t x = some (.func (.func g) f c)) (ha : evL t args.toList = some vs) (hf : P.funcs[g]? = some fn) (hb : fn.body = some b)
    (hlt : Nat.blt d nt = true) (h : ACall P g (f ++ vs.toArray ++ c) m Q) (hK : ∀ v m', Q v m' → K (put t d v) m') : Step P nt ops ⟨some d, .call ⟨.value x, args, tys⟩, T, p, af, none⟩ t m K := by
  obtain ⟨a1, a2⟩ := evL_of ha
  refine .l rfl rfl hlt rfl (fun y hy => ?_) (loud_call hP (g := g) (first := f) (captured := c) rfl rfl (evD_of hx) hf hb ?_)
  · simp only [Op.operands, Call.operands, Array.toList_append, List.mem_append] at hy
    rcases hy with hy | hy
    · simp at hy; subst hy; exact ⟨_, hx⟩
    · exact a1 y hy
  · have e : (args.map (evD t)) = vs.toArray := by rw [← a2]; apply Array.ext'; simp
    rw [e]
    exact h.mono hK
/-- A call of a function that is known by its name. -/
theorem Step.callF {args : Array Operand} {tys : Array TypeId} {g : FuncId} {vs : List Value} {fn : Func} {b : Code} {m : AM} {Q : Value → AM → Prop} (hP : Fit P) (ha : evL t args.toList = some vs) (hf : P.funcs[g]? = some fn) (hb : fn.body = some b)
    (hlt : Nat.blt d nt = true) (h : ACall P g vs.toArray m Q) (hK : ∀ v m', Q v m' → K (put t d v) m') : Step P nt ops ⟨some d, .call ⟨.value (.func g), args, tys⟩, T, p, af, none⟩ t m K :=
  .call hP rfl ha hf hb hlt (by simpa using h) hK
end
end Go.Proofs.Ytmomjannlnafcaa.Abs
