import Derived.Test.YtmomjannlnafcaaAbs6
namespace Go.Proofs.Ytmomjannlnafcaa.Abs
set_option linter.unusedSimpArgs false
set_option linter.unusedVariables false
open Go.RowKit
open Go.Proofs.Ytmomjannlnafcaa.Sim
/-! ### rows of cells, structs, appends -/
def RdL (m : AM) (i o : Nat) (c : List Value) : Prop := ∃ b, m[i]? = some (some b) ∧ ∀ (j : Nat) (v : Value), c[j]? = some v → b.cells[o + j]? = some v
theorem RdL.old {M : AM} (L : AM) {a o : Nat} {c : List Value} (h : RdL M a o c) : RdL (M ++ L) a o c := by
  obtain ⟨b, h1, h2⟩ := h
  exact ⟨b, get_old L h1, h2⟩
theorem RdL.at_ {m : AM} {a o : Nat} {c : List Value} (h : RdL m a o c) (j : Nat) {v : Value} (hj : c[j]? = some v) : Rd m a (o + j) v := by
  obtain ⟨b, h1, h2⟩ := h
  exact ⟨b, h1, h2 j v hj⟩
theorem RdL.new {M L : AM} {k : Nat} {b : Blk} {c : List Value} (h : L[k]? = some (some b)) (hb : b.cells = c) : RdL (M ++ L) (M.length + k) 0 c :=
  ⟨b, by rw [get_app]; exact h, fun j v hj => by rw [hb, Nat.zero_add]; exact hj⟩
theorem RdL.nil {m : AM} {i o : Nat} {b : Blk} (h : m[i]? = some (some b)) : RdL m i o [] := ⟨b, h, fun j v hj => by simp at hj⟩
theorem RdL.cons {m : AM} {i o : Nat} {v : Value} {c : List Value} (h : Rd m i o v) (hc : RdL m i (o + 1) c) : RdL m i o (v :: c) := by
  obtain ⟨b, h1, h2⟩ := h
  obtain ⟨b', k1, k2⟩ := hc
  rw [h1] at k1; injection k1 with k1; injection k1 with k1; subst k1
  refine ⟨b, h1, fun j x hj => ?_⟩
  cases j with
  | zero => simp at hj; subst hj; exact h2
  | succ j =>
    have := k2 j x (by simpa using hj)
    rwa [show o + (j + 1) = o + 1 + j by omega]
theorem RdL.one {m : AM} {i o : Nat} {v : Value} (h : Rd m i o v) : RdL m i o [v] := by
  obtain ⟨b, h1, h2⟩ := h
  exact ⟨b, h1, fun j x hj => by
    cases j with
    | zero => simp at hj; subst hj; exact h2
    | succ j => simp at hj⟩
section
variable {P : Program} {nt : Nat} {ops : Array Oper} {t : Fm} {m : AM} {K : Fm → AM → Prop} {d T : Nat} {p : String} {af : Array Edge}
/-- A whole struct is read. -/
theorem Step.loadL {x : Operand} {ty i o n : Nat} {c : List Value} (hx : evo t x = some (.pointer (some ⟨i, o, none⟩))) (hg : aggB P ty = some true) (hn : szB P ty = some n) (hlt : Nat.blt d nt = true) (h1 : RdL m i o c) (h3 : c.length = n) (hn1 : Nat.blt 0 n = true) (hK : K (put t d (.agg c.toArray)) m) :
    Step P nt ops ⟨some d, .load ty x, T, p, af, none⟩ t m K := by
  obtain ⟨b, k1, k2⟩ := h1
  simp at hn1
  have hlast := k2 (n - 1) c[n - 1] (List.getElem?_eq_getElem (by omega))
  have hlen := (List.getElem?_eq_some_iff.1 hlast).1
  refine .loads hx hg hn hlt k1 ?_ h3 hn1 hK
  apply List.ext_getElem?
  intro j
  by_cases hj : j < n
  · rw [List.getElem?_take, if_pos hj, List.getElem?_drop, k2 j c[j] (List.getElem?_eq_getElem (by omega)), List.getElem?_eq_getElem (by omega)]
  · rw [List.getElem?_take, if_neg hj, List.getElem?_eq_none (by omega)]
/-- A variable of one's own is set as a whole. -/
theorem Step.storeA {x y : Operand} {ty : TypeId} {k n : Nat} {v : Value} {b : Blk} {M L L' : AM} (hx : evo t x = some (.pointer (some ⟨M.length + k, 0, none⟩))) (hy : evo t y = some v) (hb : L[k]? = some (some b)) (hs : b.kind.solid = true) (hz : szB P ty = some n) (hc : v.cells.size = n) (h1 : v.cells.all (·.oneCell') = true) (ho : b.cells.length = n)
    (hL : L.set k (some { b with cells := v.cells.toList }) = L') (hK : K t (M ++ L')) : Step P nt ops ⟨none, .store ty x y, T, p, af, none⟩ t (M ++ L) K := by
  refine .stores hx hy hb hs hz hc h1 (by omega) ?_ hK
  rw [← hL]
  have : splice b.cells 0 v.cells.toList = v.cells.toList := by
    unfold splice
    rw [List.drop_eq_nil_of_le (by simp; omega)]
    simp
  rw [this]
theorem parts_eq {t : Fm} {parts : Array (Nat × Operand)} {ws : List Value} (hv : evL t (parts.toList.map (·.2)) = some ws) : (parts.map fun (i, x) => (i, evD t x)).toList = (parts.toList.map (·.1)).zip ws := by
  obtain ⟨_, h2⟩ := evL_of hv
  rw [← h2, Array.toList_map]
  generalize parts.toList = l
  induction l with
  | nil => rfl
  | cons x l ih => obtain ⟨i, y⟩ := x; simp [ih]
theorem Step.build {X : TypeId} {parts : Array (Nat × Operand)} {ws : List Value} {c : Array Value} (hv : evL t (parts.toList.map (·.2)) = some ws) (hb : abuild P X ((parts.toList.map (·.1)).zip ws) = some (.agg c)) (hlt : Nat.blt d nt = true) (hK : K (put t d (.agg c)) m) :
    Step P nt ops ⟨some d, .build X parts, T, p, af, none⟩ t m K := by
  obtain ⟨h1, _⟩ := evL_of hv
  refine .q rfl rfl hlt (fun x hx => h1 x (by simpa [Op.operands] using hx)) ?_ hK
  simp only [aquiet, parts_eq hv, hb]
theorem Step.buildS {X : TypeId} {len : Nat} {parts : Array (Nat × Operand)} {ws : List Value} {c : List Value} {M L L' : AM} (k : Nat) (hk : L.length = k) (hv : evL t (parts.toList.map (·.2)) = some ws)
    (hb : ∀ (m : AM) (n : Nat), abuildSlice P m n X len ((parts.toList.map (·.1)).zip ws) = some (.slice (some ⟨n, 0, none⟩) len len, m.set n (some { cells := c }))) (hlt : Nat.blt d nt = true) (hL : L ++ [some { cells := c }] = L') (hK : K (put t d (.slice (some ⟨M.length + k, 0, none⟩) len len)) (M ++ L')) :
    Step P nt ops ⟨some d, .buildSlice X len parts, T, p, af, none⟩ t (M ++ L) K := by
  subst hL
  obtain ⟨h1, _⟩ := evL_of hv
  refine .l rfl rfl hlt rfl (fun x hx => h1 x (by simpa [Op.operands] using hx)) (loudN hk rfl (v := .slice (some ⟨M.length + k, 0, none⟩) len len) ?_ hK)
  simp only [aloud, parts_eq hv, hb, set_new_at M L hk]
/-! a slice that grows: nil while it is empty -/
def gv (a n : Nat) : Value := if n = 0 then .slice none 0 0 else .slice (some ⟨a, 0, none⟩) n n
def gb (c : List Value) (s : Nat) : Option Blk := match c with
  | [] => none
  | x :: l => some { cells := x :: l, kind := .grow, size := s }
theorem gv_pos {a n : Nat} (h : 0 < n) : gv a n = .slice (some ⟨a, 0, none⟩) n n := if_neg (by omega)
theorem gb_pos {c : List Value} {s : Nat} (h : 0 < c.length) : gb c s = some { cells := c, kind := .grow, size := s } := by
  cases c with
  | nil => simp at h
  | cons x l => rfl
theorem gv_sl (a n : Nat) : Sl (gv a n) a 0 n := by
  unfold gv
  split
  · rename_i h; exact .inl ⟨rfl, h⟩
  · exact .inr ⟨n, Nat.le_refl _, rfl⟩
theorem Step.appG {x y : Operand} {X Y e e' : TypeId} {s by_ : Nat} {z : Array Value} {k q r n xl : Nat} {c new : List Value} {M L L' : AM} (hk : L.length = k) (hx : evo t x = some (gv (M.length + q) n)) (hy : evo t y = some (.slice (some ⟨M.length + r, 0, none⟩) xl xl)) (hE : elemB P X = some (e, s, by_, z)) (hY : P.underlying Y = some (.slice e'))
    (hs : Nat.blt 0 s = true) (hxl : Nat.blt 0 xl = true) (hq : L[q]? = some (gb c s)) (hc : c.length = n * s) (hr : L[r]? = some (some { cells := new })) (hn : new.length = xl * s) (hn1 : new.all (·.oneCell') = true) (hb : (n + xl) * by_ ≤ 1099511627776 ∧ n + xl ≤ 1099511627776) (hlt : Nat.blt d nt = true)
    (hL : L.set q none ++ [some { cells := c ++ new, kind := .grow, size := s }] = L') (hK : K (put t d (.slice (some ⟨M.length + k, 0, none⟩) (n + xl) (n + xl))) (M ++ L')) :
    Step P nt ops ⟨some d, .call ⟨.builtin .append, #[x, y], #[X, Y]⟩, T, p, af, none⟩ t (M ++ L) K := by
  subst hL
  simp at hs hxl
  refine .l rfl rfl hlt rfl (by simp [Op.operands, Call.operands, hx, hy]) (loudN hk rfl (v := .slice (some ⟨M.length + k, 0, none⟩) (n + xl) (n + xl)) ?_ hK)
  have hrl : r < L.length := (List.getElem?_eq_some_iff.1 hr).1
  have hql : q < L.length := (List.getElem?_eq_some_iff.1 hq).1
  have hcell : acells ((M ++ L) ++ [none]) s xl (.slice (some ⟨M.length + r, 0, none⟩) xl xl) = some new := by
    have hg : ((M ++ L) ++ [none])[M.length + r]? = some (some { cells := new }) := by rw [List.append_assoc, get_app, List.getElem?_append_left hrl, hr]
    simp only [acells, hg]
    rw [if_neg (by omega), if_pos ⟨Nat.le_refl _, by simp [hn]⟩]
    simp [← hn]
  simp only [aloud, evD_of hx, evD_of hy, aappend, hE, hY, aSliceLen, hcell]
  rw [if_neg (by simp [hn1]; omega)]
  by_cases hn0 : n = 0
  · subst hn0
    have hc0 : c = [] := List.eq_nil_of_length_eq_zero (by omega)
    subst hc0
    have hset : L.set q none = L := by
      apply List.ext_getElem?
      intro j
      by_cases e : q = j
      · subst e; rw [List.getElem?_set_self hql, hq]; simp [gb]
      · rw [List.getElem?_set_ne e]
    simp only [gv, if_true]
    rw [if_neg (by omega), if_pos ⟨by simpa using hb.1, by simpa using hb.2⟩, set_new_at M L hk, hset]
    simp
  · have hc1 : 0 < c.length := by rw [hc]; exact Nat.mul_pos (by omega) hs
    rw [gb_pos hc1] at hq
    rw [gv_pos (by omega)]
    simp only
    have hg : ((M ++ L) ++ [none])[M.length + q]? = some (some { cells := c, kind := .grow, size := s }) := by rw [List.append_assoc, get_app, List.getElem?_append_left hql, hq]
    rw [if_neg (by omega)]
    simp only [hg]
    rw [if_neg (by omega), if_pos ⟨hb.1, hb.2, Nat.le_refl _⟩, if_pos ⟨by simp [hc], trivial⟩]
    simp only [List.drop_zero, Option.some.injEq, Prod.mk.injEq, true_and]
    have h1 : ((M ++ L) ++ [none]).set (M.length + q) none = (M ++ L.set q none) ++ [none] := by
      rw [List.append_assoc, set_app, List.set_append_left _ _ hql, List.append_assoc]
    rw [h1, List.take_of_length_le (by omega)]
    exact set_new_at M (L.set q none) (k := k) (by simpa using hk) _ none
/-! what calls return -/
/-- The call returns r; memory is as it was. -/
def Ret (r : Value) (m : AM) : Value → AM → Prop := fun v m' => r = v ∧ m = m'
/-- The call returns a slice of n elements in a new block b. -/
def New (b : Option Blk) (n : Nat) (m : AM) : Value → AM → Prop := fun v m' => v = .slice (some ⟨m.length, 0, none⟩) n n ∧ m' = m ++ [b]
theorem Step.callR {args : Array Operand} {tys : Array TypeId} {g : FuncId} {vs : List Value} {fn : Func} {b : Code} {r : Value} (hP : Fit P) (ha : evL t args.toList = some vs) (hf : P.funcs[g]? = some fn) (hb : fn.body = some b)
    (hlt : Nat.blt d nt = true) (h : ACall P g vs.toArray m (Ret r m)) (hK : K (put t d r) m) : Step P nt ops ⟨some d, .call ⟨.value (.func g), args, tys⟩, T, p, af, none⟩ t m K :=
  .callF hP ha hf hb hlt h (by rintro v m' ⟨rfl, rfl⟩; exact hK)
theorem Step.callN {args : Array Operand} {tys : Array TypeId} {g : FuncId} {vs : List Value} {fn : Func} {b : Code} {n k : Nat} {bl : Option Blk} {M L L' : AM} (hP : Fit P) (hk : L.length = k) (ha : evL t args.toList = some vs) (hf : P.funcs[g]? = some fn) (hb : fn.body = some b)
    (hlt : Nat.blt d nt = true) (h : ACall P g vs.toArray (M ++ L) (New bl n (M ++ L))) (hL : L ++ [bl] = L') (hK : K (put t d (.slice (some ⟨M.length + k, 0, none⟩) n n)) (M ++ L')) : Step P nt ops ⟨some d, .call ⟨.value (.func g), args, tys⟩, T, p, af, none⟩ t (M ++ L) K :=
  .callF hP ha hf hb hlt h (by
    rintro v m' ⟨rfl, rfl⟩
    subst hL
    rw [List.length_append, hk, List.append_assoc]
    exact hK)
/-- A call through a closure. -/
theorem Step.callV {x : Operand} {args : Array Operand} {tys : Array TypeId} {g : FuncId} {f c : Array Value} {vs : List Value} {fn : Func} {b : Code} {r : Value} (hP : Fit P) (hx : evo t x = some (.func (.func g) f c)) (ha : evL t args.toList = some vs) (hf : P.funcs[g]? = some fn) (hb : fn.body = some b)
    (hlt : Nat.blt d nt = true) (h : ACall P g (f ++ vs.toArray ++ c) m (Ret r m)) (hK : K (put t d r) m) : Step P nt ops ⟨some d, .call ⟨.value x, args, tys⟩, T, p, af, none⟩ t m K :=
  .call hP hx ha hf hb hlt h (by rintro v m' ⟨rfl, rfl⟩; exact hK)
/-- nil or not -/
theorem Step.eqNil {x y : Operand} {X Y : TypeId} {a o n c : Nat} {e : TypeId} (hx : evo t x = some (.slice (some ⟨a, o, none⟩) n c)) (hy : evo t y = some (.slice none 0 0)) (hX : P.underlying X = some (.slice e)) (hlt : Nat.blt d nt = true) (hK : K (put t d (.bool false)) m) : Step P nt ops ⟨some d, .binOp .eql X x y Y, T, p, af, none⟩ t m K :=
  .q rfl rfl hlt (by simp [Op.operands, hx, hy]) (by simp [aquiet, evD_of hx, evD_of hy, aint, anil, hX, bEq]) hK
end
/-- The block at p is the one that lay at q: other names, and what the call made besides is let go. -/
theorem Gc.mv {t : Fm} {M L L1 : AM} {p q : Nat} {l : List (Nat × Value)} (hp : p < L1.length) (hq : L1.length ≤ q) (hpq : L1[p]? = L[q]?) (hrest : ∀ j b, j ≠ p → L1[j]? = some (some b) → L[j]? = some (some b))
    (hc : ∀ b, some b ∈ L1 → ∀ v ∈ b.cells, Ren (fun i => if i = M.length + p then M.length + q else i) (M.length + L1.length) v v)
    (h : All (fun i v => ∃ v', t i = some v' ∧ Ren (fun i => if i = M.length + p then M.length + q else i) (M.length + L1.length) v v') l) : Gc M t (M ++ L) (fr l) (M ++ L1) := by
  refine ⟨fun i => if i = M.length + p then M.length + q else i, by simp, fun j hj => if_neg (by omega), fun i j b c hi hj e => ?_, fun j b hj => ?_, fun i v hi => by
    obtain ⟨v', h1, h2⟩ := fr_all h i v hi
    exact ⟨v', h1, by simpa using h2⟩⟩
  · have hi' := (List.getElem?_eq_some_iff.1 hi).1
    have hj' := (List.getElem?_eq_some_iff.1 hj).1
    simp at hi' hj'
    simp only at e
    split at e <;> split at e <;> omega
  · rcases Nat.lt_or_ge j M.length with hlt | hge
    · rw [List.getElem?_append_left hlt] at hj
      exact .inl ⟨hlt, get_old _ hj, hj⟩
    · have hj0 := hj
      rw [List.getElem?_append_right hge] at hj
      have hmem := List.mem_of_getElem? hj
      refine .inr ⟨b, ?_, rfl, rfl, rfl, fun k v hk => ⟨v, hk, ?_⟩⟩
      · by_cases e : j = M.length + p
        · subst e
          simp only [if_true]
          rw [Nat.add_sub_cancel_left] at hj
          rw [get_app, ← hpq]; exact hj
        · simp only [if_neg e]
          rw [List.getElem?_append_right hge]
          exact hrest _ b (by omega) hj
      · have := hc b hmem v (List.mem_of_getElem? hk)
        simpa using this
end Go.Proofs.Ytmomjannlnafcaa.Abs
