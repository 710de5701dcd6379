import Derived.Test.YtmomjannlnafcaaAbs8
namespace Go.Proofs.Ytmomjannlnafcaa.Abs
set_option linter.unusedSimpArgs false
set_option linter.unusedVariables false
open Go.RowKit
open Go.Proofs.Ytmomjannlnafcaa.Sim
section
variable {P : Program} {nt : Nat} {ops : Array Oper} {t : Fm} {m : AM} {K : Fm → AM → Prop} {d T : Nat} {p : String} {af : Array Edge}
theorem still_bind {α β : Type} (s : Sem α) (f : α → Sem β) : Sim.still P (s.bind f) = match Sim.still P s with
  | some a => Sim.still P (f a)
  | none => none := by
  induction s with
  | pure a => rfl
  | program k ih => simp only [Sem.bind, Sim.still]; exact ih _
  | _ => rfl
theorem still_nil {X e : TypeId} (hX : P.underlying X = some (.slice e)) (n : Nat) : Sim.still P (Op.equalIn (n + 1) X (.slice none 0 0) (.slice none 0 0)) = some true := by
  rw [Op.equalIn]
  show Sim.still P (Sem.bind (underlying X) _) = _
  rw [still_bind]
  have : Sim.still P (underlying X) = some (.slice e) := by
    unfold underlying
    show Sim.still P (Sem.bind program _) = _
    rw [still_bind]
    simp [program, Sim.still, hX, pure]
  rw [this]
  rfl
theorem Step.nilNil {x y : Operand} {X Y e : TypeId} (hx : evo t x = some (.slice none 0 0)) (hy : evo t y = some (.slice none 0 0)) (hX : P.underlying X = some (.slice e)) (hlt : Nat.blt d nt = true) (hK : K (put t d (.bool true)) m) : Step P nt ops ⟨some d, .binOp .eql X x y Y, T, p, af, none⟩ t m K := by
  refine .ground rfl rfl hlt (by simp [Op.operands, hx, hy, g1, g0]) (fun h => by simp only [aquiet, evD_of hx, evD_of hy, aint, anil, hX]; simpa [evD_of hx, evD_of hy] using h) ?_ (by simp [g1, g0]) hK
  have he := still_nil hX 9999
  simp only [execOp, eqGuard, binOp, evD_of hx, evD_of hy, bind, Sem.bind, pure]
  show Sim.still P (((Op.equalIn (9999 + 1) X (.slice none 0 0) (.slice none 0 0)).bind _).bind _) = _
  rw [still_bind, still_bind, he]
  rfl
/-- append to an empty slice of one's own: its elements in a new block. -/
theorem Step.appE {x y : Operand} {X Y e e' : TypeId} {s by_ : Nat} {z : Array Value} {k q a o n c : Nat} {new : List Value} {M L L' : AM} (hk : L.length = k) (hx : evo t x = some (.slice (some ⟨M.length + q, 0, none⟩) 0 0)) (hy : evo t y = some (.slice (some ⟨a, o, none⟩) n c)) (hE : elemB P X = some (e, s, by_, z)) (hY : P.underlying Y = some (.slice e'))
    (hs : Nat.blt 0 s = true) (hq : L[q]? = some (some { cells := [] })) (hr : RdL (M ++ L) a o new) (hn : new.length = n * s) (hpos : 0 < n) (hn1 : new.all (·.oneCell') = true) (hb : n * by_ ≤ 1099511627776 ∧ n ≤ 1099511627776) (hlt : Nat.blt d nt = true)
    (hL : L ++ [some { cells := new, kind := .grow, size := s }] = L') (hK : K (put t d (.slice (some ⟨M.length + k, 0, none⟩) n n)) (M ++ L')) :
    Step P nt ops ⟨some d, .call ⟨.builtin .append, #[x, y], #[X, Y]⟩, T, p, af, none⟩ t (M ++ L) K := by
  subst hL
  simp at hs
  refine .l rfl rfl hlt rfl (by simp [Op.operands, Call.operands, hx, hy]) (loudN hk rfl (v := .slice (some ⟨M.length + k, 0, none⟩) n n) ?_ hK)
  obtain ⟨b, r1, r2⟩ := hr
  have hql : q < L.length := (List.getElem?_eq_some_iff.1 hq).1
  have hr' : ((M ++ L) ++ [none])[a]? = some (some b) := get_old _ r1
  have hg : ((M ++ L) ++ [none])[M.length + q]? = some (some { cells := [] }) := by rw [List.append_assoc, get_app, List.getElem?_append_left hql, hq]
  have hns : 0 < n * s := Nat.mul_pos hpos hs
  have hlast := r2 (n * s - 1) new[n * s - 1] (List.getElem?_eq_getElem (by omega))
  have hlen := (List.getElem?_eq_some_iff.1 hlast).1
  have htake : (b.cells.drop o).take (n * s) = new := by
    apply List.ext_getElem?
    intro j
    by_cases hj : j < n * s
    · rw [List.getElem?_take, if_pos hj, List.getElem?_drop, r2 j new[j] (List.getElem?_eq_getElem (by omega)), List.getElem?_eq_getElem (by omega)]
    · rw [List.getElem?_take, if_neg hj, List.getElem?_eq_none (by omega)]
  have hcell : acells ((M ++ L) ++ [none]) s n (.slice (some ⟨a, o, none⟩) n c) = some new := by
    simp only [acells, hr']
    rw [if_neg (by omega), if_pos ⟨Nat.le_refl _, by omega⟩, htake]
  simp only [aloud, evD_of hx, evD_of hy, aappend, hE, hY, aSliceLen, hcell]
  rw [if_neg (by simp [hn1]; omega), if_neg (by omega)]
  simp only [hg]
  rw [if_neg (by omega), if_pos ⟨by simpa using hb.1, by simpa using hb.2, Nat.le_refl _⟩, if_pos (by simp)]
  rw [set_new_at M L hk]
  simp
/-- append of nothing. -/
theorem Step.app0 {x y : Operand} {X Y e e' : TypeId} {s by_ : Nat} {z : Array Value} {k q a o c : Nat} {M L L' : AM} (hk : L.length = k) (hx : evo t x = some (.slice (some ⟨M.length + q, 0, none⟩) 0 0)) (hy : evo t y = some (.slice (some ⟨a, o, none⟩) 0 c)) (hE : elemB P X = some (e, s, by_, z)) (hY : P.underlying Y = some (.slice e'))
    (hs : Nat.blt 0 s = true) (hlt : Nat.blt d nt = true) (hL : L ++ [none] = L')
    (hK : K (put t d (.slice (some ⟨M.length + q, 0, none⟩) 0 0)) (M ++ L')) :
    Step P nt ops ⟨some d, .call ⟨.builtin .append, #[x, y], #[X, Y]⟩, T, p, af, none⟩ t (M ++ L) K := by
  subst hL
  simp at hs
  refine .l rfl rfl hlt rfl (by simp [Op.operands, Call.operands, hx, hy]) (loudN hk rfl (v := .slice (some ⟨M.length + q, 0, none⟩) 0 0) ?_ hK)
  simp only [aloud, evD_of hx, evD_of hy, aappend, hE, hY, aSliceLen, acells]
  simp [show s ≠ 0 by omega]
end
theorem Back.pad {M L : AM} {t : Fm} {l : List (Nat × Value)} (h : All (fun i v => t i = some v ∧ Ren rid (M.length + (L ++ [none]).length) v v) l) (hc : CellsOk L) : Back M t (M ++ L) l (L ++ [none]) := by
  refine .inr ⟨rid, by simp, fun _ _ => rfl, fun _ _ _ _ _ _ e => e, fun j b hj => ?_, fun i v hi => by
    obtain ⟨h1, h2⟩ := fr_all h i v hi
    exact ⟨v, h1, by simpa using h2⟩⟩
  have hj2 : (M ++ L)[j]? = some (some b) := by
    rw [← List.append_assoc] at hj
    rcases Nat.lt_or_ge j (M ++ L).length with hlt | hge
    · rwa [List.getElem?_append_left hlt] at hj
    · rw [List.getElem?_append_right hge] at hj
      cases q : j - (M ++ L).length with
      | zero => rw [q] at hj; simp at hj
      | succ q' => rw [q] at hj; simp at hj
  rcases Nat.lt_or_ge j M.length with hlt | hge
  · refine .inl ⟨hlt, hj2, ?_⟩
    rwa [List.getElem?_append_left hlt] at hj2
  · refine .inr ⟨b, hj2, rfl, rfl, rfl, fun k v hk => ⟨v, hk, ?_⟩⟩
    rw [List.getElem?_append_right hge] at hj2
    exact .of_g0 (hc b (List.mem_of_getElem? hj2) v (List.mem_of_getElem? hk))
theorem CellsOk.gb {c : List Value} {s : Nat} {L : AM} (hb : ∀ v ∈ c, g0 v = true) (h : CellsOk L) : CellsOk (gb c s :: L) := by
  cases c with
  | nil => exact .none h
  | cons x l => exact .cons hb h
theorem Ren.of_gv {N a n : Nat} (h : a < N) : Ren rid N (gv a n) (gv a n) := by
  unfold Abs.gv
  split
  · exact .sliceNil
  · exact .slice _ _ _ _ h
theorem Ren.of_gv_ne {N a n p q M : Nat} (h : a < N) (hne : a ≠ M + p) : Ren (fun i => if i = M + p then M + q else i) N (gv a n) (gv a n) := by
  unfold Abs.gv
  split
  · exact .sliceNil
  · exact .slice_ne h hne
/-- A new row, nil if it is empty. -/
def NewG (c : List Value) (s n : Nat) (m : AM) : Value → AM → Prop := fun v m' => v = gv (m.length + 0) n ∧ m' = m ++ [gb c s]
theorem Step.callG {P : Program} {nt : Nat} {ops : Array Oper} {t : Fm} {K : Fm → AM → Prop} {d T : Nat} {p : String} {af : Array Edge} {args : Array Operand} {tys : Array TypeId} {g : FuncId} {vs : List Value} {fn : Func} {b : Code} {n k s : Nat} {c : List Value} {M L L' : AM} (hP : Fit P) (hk : L.length = k) (ha : evL t args.toList = some vs) (hf : P.funcs[g]? = some fn) (hb : fn.body = some b)
    (hlt : Nat.blt d nt = true) (h : ACall P g vs.toArray (M ++ L) (NewG c s n (M ++ L))) (hL : L ++ [gb c s] = L') (hK : K (put t d (gv (M.length + k) n)) (M ++ L')) : Step P nt ops ⟨some d, .call ⟨.value (.func g), args, tys⟩, T, p, af, none⟩ t (M ++ L) K :=
  .callF hP ha hf hb hlt h (by
    rintro v m' ⟨rfl, rfl⟩
    subst hL
    rw [List.length_append, hk, List.append_assoc]
    exact hK)
end Go.Proofs.Ytmomjannlnafcaa.Abs
