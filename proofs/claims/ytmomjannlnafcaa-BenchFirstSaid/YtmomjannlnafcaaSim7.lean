import Derived.Test.YtmomjannlnafcaaSim6
namespace Go.Proofs.Ytmomjannlnafcaa.Sim
set_option linter.unusedSimpArgs false
set_option linter.unusedVariables false
open Go.RowKit
section
variable {P : Program} {base : Nat} {R : Pl} {m : AM} {w : World} {n : Nat}
def bEq (op : BinOp) : Option Bool :=
  match op with
  | .eql => some false
  | .neq => some true
  | _ => none
/-- '==' and '!=' against nil. -/
def anil (P : Program) (op : BinOp) (t : TypeId) (x y : Value) : Option Value :=
  match P.underlying t, x, y with
  | some (.pointer _), .pointer (some ⟨_, _, none⟩), .pointer none => (bEq op).map .bool
  | some (.slice _), .slice (some ⟨_, _, none⟩) _ _, .slice none 0 0 => (bEq op).map .bool
  | some (.func ..), .func .., .nilFunc => (bEq op).map .bool
  | _, _, _ => none
theorem equal_at {t : TypeId} {x y : Value} {b : Bool} (h : ∀ d, (Op.equalIn (d + 1) t x y).run P w = .ok b w) : (Op.equal t x y).run P w = .ok b w := h 9999
theorem equal_ptr {t e : TypeId} (hu : P.underlying t = some (.pointer e)) (a : Addr) (w : World) : (Op.equal t (.pointer (some a)) (.pointer none)).run P w = .ok false w :=
  equal_at fun d => by simp only [Op.equalIn, Sem.run_bind, run_underlying hu, Result.andThen_ok]; rfl
theorem equal_slice {t e : TypeId} (hu : P.underlying t = some (.slice e)) (a : Addr) (k c : Nat) (w : World) : (Op.equal t (.slice (some a) k c) (.slice none 0 0)).run P w = .ok false w :=
  equal_at fun d => by simp only [Op.equalIn, Sem.run_bind, run_underlying hu, Result.andThen_ok]; rfl
theorem equal_func {t : TypeId} {p q : Array TypeId} {r : Bool} (hu : P.underlying t = some (.func p q r)) (fn : Fn) (a b : Array Value) (w : World) : (Op.equal t (.func fn a b) .nilFunc).run P w = .ok false w :=
  equal_at fun d => by simp only [Op.equalIn, Sem.run_bind, run_underlying hu, Result.andThen_ok]; rfl
theorem anil_ok {op : BinOp} {t : TypeId} {x x' y y' v : Value} (hx : Rel R x x') (hy : Rel R y y') (h : anil P op t x y = some v) :
    ∀ a b, (do eqGuard op t a b x' y'; binOp op t x' y' : Sem Value).run P w = .ok v w := by
  intro a b
  unfold anil at h
  split at h
  · rename_i hu
    cases hx; cases hy
    cases op <;> simp [bEq] at h <;> subst h <;> simp [eqGuard, binOp, equal_ptr hu]
  · rename_i hu
    cases hx; cases hy
    cases op <;> simp [bEq] at h <;> subst h <;> simp [eqGuard, binOp, equal_slice hu]
  · rename_i hu
    cases hx; cases hy
    cases op <;> simp [bEq] at h <;> subst h <;> simp [eqGuard, binOp, equal_func hu]
  · cases h
/-- Arithmetic on integers, without a look at the types. -/
def aint (op : BinOp) (x y : Value) : Option Value :=
  match x, y with
  | .int k a, .int k' b =>
    if k = k' then
      match op with
      | .add => some (.int k (k.wrap (a + b)))
      | .sub => some (.int k (k.wrap (a - b)))
      | .mul => some (.int k (k.wrap (a * b)))
      | .lss => some (.bool (decide (a < b)))
      | .leq => some (.bool (decide (a ≤ b)))
      | .gtr => some (.bool (decide (b < a)))
      | .geq => some (.bool (decide (b ≤ a)))
      | .eql => some (.bool (decide (a = b)))
      | .neq => some (.bool (!decide (a = b)))
      | _ => none
    else none
  | _, _ => none
theorem beq_eq_dec (a b : Int) : (a == b) = decide (a = b) := by by_cases h : a = b <;> simp [h]
theorem aint_ok {op : BinOp} {t : TypeId} {x x' y y' v : Value} (hx : Rel R x x') (hy : Rel R y y') (h : aint op x y = some v) :
    ∀ a b, (do eqGuard op t a b x' y'; binOp op t x' y' : Sem Value).run P w = .ok v w ∧ Rel R v v := by
  intro a b
  unfold aint at h
  split at h
  · cases hx; cases hy
    split at h
    · rename_i hk
      subst hk
      split at h <;> cases h <;> exact ⟨by simp [eqGuard, binOp, Op.intArith, Op.intCmp, beq_eq_dec, bne], by constructor⟩
    · cases h
  · cases h
def anilCheck : Value → Option Value
  | .pointer (some ⟨i, o, none⟩) => some (.pointer (some ⟨i, o, none⟩))
  | .func (.func f) a b => some (.func (.func f) a b)
  | _ => none
/-- Operations that look at no world, on values without addresses. -/
def aground (P : Program) (o : Oper) (ev : Operand → Value) : Option Value :=
  if o.op.operands.all (fun x => g1 (ev x)) then
    match still P (execOp ev o) with
    | some (.value v) => if g1 v then some v else none
    | _ => none
  else none
/-- Operations that write nothing and make nothing. -/
def aquiet (P : Program) (o : Oper) (ev : Operand → Value) (m : AM) : Option Value :=
  match o.op with
  | .move x | .assign x => some (ev x)
  | .pick c a b => match ev c with
    | .bool q => some (if q then ev a else ev b)
    | _ => none
  | .load t a => aload P m t (ev a)
  | .build t ps => abuild P t (ps.map fun (i, x) => (i, ev x)).toList
  | .fieldAddr s x f => afield P s (ev x) f
  | .indexAddr t x i => aindex P t (ev x) (ev i)
  | .field t x f => afieldOf P t (ev x) f
  | .index t x i => match ev x with
    | .agg _ => aindexOf P t (ev x) (ev i)
    | _ => aground P o ev
  | .extract x i => match ev x with
    | .tuple vs => vs[i]?
    | _ => none
  | .nilCheck x => anilCheck (ev x)
  | .makeFunc fn f c => some (.func fn (f.map ev) (c.map ev))
  | .binOp op t x y _ => match aint op (ev x) (ev y) with
    | some v => some v
    | none => match anil P op t (ev x) (ev y) with
      | some v => some v
      | none => aground P o ev
  | .unOp .. | .convert .. => aground P o ev
  | .slice _ x _ _ _ => match ev x with
    | .string _ => aground P o ev
    | _ => none
  | .call c => match c.callee, c.args.toList, c.argTypes.toList with
    | .builtin .len, [x], [t] => match alen P t (ev x) with
      | some v => some v
      | none => aground P o ev
    | .builtin .min, _, _ => aground P o ev
    | .builtin .max, _, _ => aground P o ev
    | _, _, _ => none
  | _ => none
/-- Does an operation need a free place? -/
def needsNew : Op → Bool
  | .alloc _ | .box .. | .buildSlice .. | .makeSlice .. | .slice .. => true
  | .call c => match c.callee with
    | .builtin .append => true
    | _ => false
  | _ => false
def aloud (P : Program) (o : Oper) (ev : Operand → Value) (m : AM) (n : Nat) : Option (Value × AM) :=
  match o.op with
  | .store t a x => (astore P m t (ev a) (ev x)).map fun m' => (undef, m')
  | .alloc t => (zeroB P t).map fun z => (.pointer (some ⟨n, 0, none⟩), m.set n (some { cells := z.toList }))
  | .box _ x => if (ev x).cells.all (·.oneCell') then some (.pointer (some ⟨n, 0, none⟩), m.set n (some { cells := (ev x).cells.toList })) else none
  | .buildSlice t l ps => abuildSlice P m n t l (ps.map fun (i, x) => (i, ev x)).toList
  | .makeSlice t l c => amake P m n t (ev l) (ev c)
  | .slice t x lo hi mx => aslice P m n t (ev x) (lo.map ev) (hi.map ev) (mx.map ev)
  | .call c => match c.callee, c.args.toList, c.argTypes.toList with
    | .builtin .append, [s, x], [t, tx] => aappend P m n t tx (ev s) (ev x)
    | .builtin .copy, [d, x], [t, _] => acopy P m t (ev d) (ev x)
    | .builtin .clear, [x], [t] => aclear P m t (ev x)
    | _, _, _ => none
  | _ => none
/-- What is read, and no more. -/
def HRep (base : Nat) (R : Pl) (m : AM) (w : World) : Prop := ∀ (i : Nat) (b : Blk), m[i]? = some (some b) → ∃ p, R i = some p ∧ BRep base R b p w
theorem MRep.held (h : MRep base R m w) : HRep base R m w := h.rep
theorem aground_ok {o : Oper} {ev ev' : Operand → Value} {v : Value} (hs : ∀ cs b, o.op ≠ .select cs b) (hev : ∀ x ∈ o.op.operands, Rel R (ev x) (ev' x)) (he : aground P o ev = some v) :
    ∃ v', (execOp ev' o).run P w = .ok (.value v') w ∧ Rel R v v' := by
  unfold aground at he
  split at he
  · rename_i hg
    have hcong : execOp ev' o = execOp ev o := execOp_congr o hs fun x hx => g1_eq (by have := Array.all_eq_true'.1 hg x hx; exact this) (hev x hx)
    split at he
    · rename_i v0 hst
      split at he
      · rename_i hv
        injection he with he; subst he
        exact ⟨v0, by rw [hcong]; exact still_run P _ _ hst w, g1_rel hv⟩
      · cases he
    · cases he
  · cases he
theorem rels_map {ev ev' : Operand → Value} (c : Array Operand) (h : ∀ x ∈ c, Rel R (ev x) (ev' x)) : Rels R (c.map ev) (c.map ev') := by
  refine ⟨by simp, fun i hi => ?_⟩
  simp at hi
  simpa [hi] using h c[i] (by simp)
theorem parts_rel {ev ev' : Operand → Value} (ps : Array (Nat × Operand)) (h : ∀ x ∈ (ps.toList.map (·.2)).toArray, Rel R (ev x) (ev' x)) :
    (ps.map fun (i, x) => (i, ev x)).toList.map (·.1) = (ps.map fun (i, x) => (i, ev' x)).toList.map (·.1) ∧
    ∀ (j : Nat) (x y : Nat × Value), (ps.map fun (i, x) => (i, ev x)).toList[j]? = some x → (ps.map fun (i, x) => (i, ev' x)).toList[j]? = some y → Rel R x.2 y.2 := by
  refine ⟨by simp [Function.comp_def], fun j x y hx hy => ?_⟩
  simp at hx hy
  obtain ⟨a, b, h1, rfl⟩ := hx
  obtain ⟨a', b', h2, rfl⟩ := hy
  rw [h1] at h2
  injection h2 with h2
  simp only [Prod.mk.injEq] at h2
  obtain ⟨rfl, rfl⟩ := h2
  refine h b ?_
  simp
  exact ⟨a, by
    have := Array.mem_of_getElem? h1
    exact this⟩
theorem int_of_rel {x y : Value} {k : IntKind} {q : Int} (e : x = .int k q) (h : Rel R x y) : y = x := by subst e; cases h; rfl
theorem aquiet_ok (h : HRep base R m w) {o : Oper} {ev ev' : Operand → Value} {v : Value} (hev : ∀ x ∈ o.op.operands, Rel R (ev x) (ev' x))
    (he : aquiet P o ev m = some v) : ∃ v', (execOp ev' o).run P w = .ok (.value v') w ∧ Rel R v v' := by
  obtain ⟨dst, op, type, pos, after, guard⟩ := o
  unfold aquiet at he
  simp only at hev
  split at he
  case h_1 x heq =>
    simp only at heq; subst heq
    injection he with he; subst he
    exact ⟨_, by simp [execOp], hev x (by simp [Op.operands])⟩
  case h_2 x heq =>
    simp only at heq; subst heq
    injection he with he; subst he
    exact ⟨_, by simp [execOp], hev x (by simp [Op.operands])⟩
  case h_3 c a b heq =>
    simp only at heq; subst heq
    have hc := hev c (by simp [Op.operands])
    split at he
    · rename_i q hq
      rw [hq] at hc
      generalize hc' : ev' c = qq at hc
      cases hc
      injection he with he; subst he
      refine ⟨if q then ev' a else ev' b, by cases q <;> simp [execOp, hc', asBool], ?_⟩
      cases q
      · exact hev b (by simp [Op.operands])
      · exact hev a (by simp [Op.operands])
    · cases he
  case h_4 t a heq =>
    simp only at heq; subst heq
    obtain ⟨v', h1, h2⟩ := aload_ok (w := w) h (hev a (by simp [Op.operands])) he
    exact ⟨v', by simp [execOp, h1], h2⟩
  case h_5 t ps heq =>
    simp only at heq; subst heq
    obtain ⟨p1, p2⟩ := parts_rel (R := R) ps (fun x hx => hev x (by simpa [Op.operands] using hx))
    obtain ⟨v', h1, h2⟩ := abuild_ok (w := w) p1 p2 he
    exact ⟨v', by simp [execOp, h1], h2⟩
  case h_6 s x f heq =>
    simp only at heq; subst heq
    obtain ⟨v', h1, h2⟩ := afield_ok (w := w) (hev x (by simp [Op.operands])) he
    exact ⟨v', by simp [execOp, h1], h2⟩
  case h_7 t x i heq =>
    simp only at heq; subst heq
    have hi := hev i (by simp [Op.operands])
    have hii : ev' i = ev i := by
      have hl := he
      unfold aindex at hl
      split at hl
      · rename_i e; exact (int_of_rel e hi)
      · rename_i e; exact (int_of_rel e hi)
      · cases hl
    obtain ⟨v', h1, h2⟩ := aindex_ok (w := w) (hev x (by simp [Op.operands])) he
    exact ⟨v', by simp [execOp, hii, h1], h2⟩
  case h_8 t x f heq =>
    simp only at heq; subst heq
    obtain ⟨v', h1, h2⟩ := afieldOf_ok (w := w) (hev x (by simp [Op.operands])) he
    exact ⟨v', by simp [execOp, h1], h2⟩
  case h_9 t x i heq =>
    simp only at heq; subst heq
    split at he
    · have hi := hev i (by simp [Op.operands])
      have hii : ev' i = ev i := by
        have hl := he
        unfold aindexOf at hl
        split at hl
        · rename_i e; exact (int_of_rel e hi)
        · cases hl
      obtain ⟨v', h1, h2⟩ := aindexOf_ok (w := w) (hev x (by simp [Op.operands])) he
      exact ⟨v', by simp [execOp, hii, h1], h2⟩
    · exact aground_ok (by simp) hev he
  case h_10 x i heq =>
    simp only at heq; subst heq
    have hx := hev x (by simp [Op.operands])
    split at he
    · rename_i vs hvs
      rw [hvs] at hx
      generalize hq : ev' x = q at hx
      cases hx with
      | tuple _ c' h1 h2 =>
        have hlt := (Array.getElem?_eq_some_iff.1 he).1
        have hlt' : i < c'.size := by omega
        have := h2 i hlt
        refine ⟨c'[i], by simp [execOp, hq, Instr.extract, hlt'], ?_⟩
        simpa [he, hlt'] using this
    · cases he
  case h_11 x heq =>
    simp only at heq; subst heq
    have hx := hev x (by simp [Op.operands])
    unfold anilCheck at he
    split at he
    · rename_i e
      rw [e] at hx
      injection he with he; subst he
      generalize hq : ev' x = q at hx
      cases hx with
      | ptr _ _ p hp => exact ⟨_, by simp [execOp, hq], .ptr _ _ p hp⟩
    · rename_i f a b e
      rw [e] at hx
      injection he with he; subst he
      generalize hq : ev' x = q at hx
      cases hx with
      | func _ _ _ f' c' k1 k2 k3 k4 => exact ⟨_, by simp [execOp, hq], .func _ _ _ _ _ k1 k2 k3 k4⟩
    · cases he
  case h_12 fn f c heq =>
    simp only at heq; subst heq
    injection he with he; subst he
    have r1 := rels_map (R := R) f (fun x hx => hev x (by simp [Op.operands, hx]))
    have r2 := rels_map (R := R) c (fun x hx => hev x (by simp [Op.operands, hx]))
    exact ⟨_, by simp [execOp, Instr.makeFunc], .func _ _ _ _ _ r1.1 r1.2 r2.1 r2.2⟩
  case h_13 op' t x y yt heq =>
    simp only at heq; subst heq
    split at he
    · rename_i u hu
      injection he with he; subst he
      obtain ⟨hr, hg⟩ := aint_ok (P := P) (w := w) (t := t) (hev x (by simp [Op.operands])) (hev y (by simp [Op.operands])) hu x y
      refine ⟨u, ?_, hg⟩
      simp only [execOp]
      simp only [Sem.run_bind] at hr ⊢
      simp only [hr, Result.andThen_ok]
      rfl
    split at he
    · rename_i u hu
      injection he with he; subst he
      have hg : Rel R u u := by
        unfold anil at hu
        split at hu <;> first | (cases hb : bEq op' with | none => simp [hb] at hu | some b => simp [hb] at hu; subst hu; exact .bool b) | cases hu
      have hr := anil_ok (P := P) (w := w) (hev x (by simp [Op.operands])) (hev y (by simp [Op.operands])) hu x y
      refine ⟨u, ?_, hg⟩
      simp only [execOp]
      simp only [Sem.run_bind] at hr ⊢
      simp only [hr, Result.andThen_ok]
      rfl
    · exact aground_ok (by simp) hev he
  case h_14 heq => simp only at heq; subst heq; exact aground_ok (by simp) hev he
  case h_15 heq => simp only at heq; subst heq; exact aground_ok (by simp) hev he
  case h_16 t x lo hi mx heq =>
    simp only at heq; subst heq
    split at he
    · exact aground_ok (by simp) hev he
    · cases he
  case h_17 c heq =>
    simp only at heq; subst heq
    obtain ⟨callee, args, argTypes⟩ := c
    simp only [Op.operands, Call.operands] at hev
    split at he
    · rename_i x t e1 e2 e3
      simp only at e1 e2 e3; subst e1
      obtain rfl : args = #[x] := Array.toList_inj.1 e2
      obtain rfl : argTypes = #[t] := Array.toList_inj.1 e3
      split at he
      · rename_i u hl
        injection he with he; subst he
        have hr := alen_ok (P := P) (w := w) (ty := type) (hev x (by simp)) hl
        have hg : Rel R u u := by
          unfold alen at hl
          split at hl
          · cases hs : aSliceLen (ev x) with
            | none => simp [hs] at hl
            | some k => simp [hs] at hl; subst hl; exact .int _ _
          · cases hl
        exact ⟨u, by simp [execOp, resolve, invoke, builtin, hr], hg⟩
      · exact aground_ok (by simp) (by simpa [Op.operands, Call.operands] using hev) he
    · exact aground_ok (by simp) (by simpa [Op.operands, Call.operands] using hev) he
    · exact aground_ok (by simp) (by simpa [Op.operands, Call.operands] using hev) he
    · cases he
  case h_18 => cases he
/-- ONE LOUD OPERATION. -/
theorem aloud_ok (h : MRep base R m w) (hbase : base ≤ w.heap.size) {o : Oper} (hnew : needsNew o.op = true → m[n]? = some none ∧ R n = none) {ev ev' : Operand → Value} {v : Value} {m' : AM} (hev : ∀ x ∈ o.op.operands, Rel R (ev x) (ev' x))
    (he : aloud P o ev m n = some (v, m')) : Does P base R m n w (execOp ev' o) v m' := by
  obtain ⟨dst, op, type, pos, after, guard⟩ := o
  unfold aloud at he
  simp only at hev hnew
  split at he
  case h_1 t a x heq =>
    simp only at heq; subst heq
    cases hl : astore P m t (ev a) (ev x) with
    | none => rw [hl] at he; cases he
    | some u =>
      rw [hl] at he
      simp only [Option.map_some, Option.some.injEq, Prod.mk.injEq] at he
      obtain ⟨rfl, rfl⟩ := he
      obtain ⟨w', h1, h2⟩ := astore_ok (w := w) h (hev a (by simp [Op.operands])) (hev x (by simp [Op.operands])) hl
      exact ⟨R, undef, w', .inr ⟨by simp [execOp, h1], rfl⟩, .undef R, h2, fun _ _ => rfl⟩
  case h_2 t heq =>
    simp only at heq; subst heq
    obtain ⟨hfree, hR⟩ := hnew rfl
    cases hl : zeroB P t with
    | none => rw [hl] at he; cases he
    | some z =>
      rw [hl] at he
      simp only [Option.map_some, Option.some.injEq, Prod.mk.injEq] at he
      obtain ⟨rfl, rfl⟩ := he
      obtain ⟨hg, i, zz, h1, h2, h3, h4⟩ := zeroB_run hl
      obtain ⟨q1, q2⟩ := g0one_rel (R := R) hg
      refine set_new h hbase hfree hR t q1 q2 ?_ (rel_new _)
      subst h3
      simp [execOp, Instr.alloc, h4, newVar, newRow]
  case h_3 t x heq =>
    simp only at heq; subst heq
    obtain ⟨hfree, hR⟩ := hnew rfl
    split at he
    · rename_i hone
      simp only [Option.some.injEq, Prod.mk.injEq] at he
      obtain ⟨rfl, rfl⟩ := he
      refine set_new h hbase hfree hR t (hev x (by simp [Op.operands])).cells.relL (allOne hone) ?_ (rel_new _)
      simp [execOp, Instr.box, newVar, newRow]
    · cases he
  case h_4 t l ps heq =>
    simp only at heq; subst heq
    obtain ⟨hfree, hR⟩ := hnew rfl
    obtain ⟨p1, p2⟩ := parts_rel (R := R) ps (fun x hx => hev x (by simpa [Op.operands] using hx))
    exact abuildSlice_ok h hbase hfree hR p1 p2 he (fun v w' hr => by simp [execOp, hr])
  case h_5 t l c heq =>
    simp only at heq; subst heq
    obtain ⟨hfree, hR⟩ := hnew rfl
    exact amake_ok h hbase hfree hR (hev l (by simp [Op.operands])) (hev c (by simp [Op.operands])) he (fun v w' hr => by simp [execOp, hr])
  case h_6 t x lo hi mx heq =>
    simp only at heq; subst heq
    obtain ⟨hfree, hR⟩ := hnew rfl
    have opt : ∀ (q : Option Operand), (∀ y, q = some y → Rel R (ev y) (ev' y)) → ∀ k d, bnd d (q.map ev) = some k → q.map ev' = q.map ev := by
      intro q hq k d hb
      refine bnd_rel (R := R) (fun y hy => ?_) (fun hn => ?_) hb
      · cases q with
        | none => simp at hy
        | some z => simp at hy; subst hy; exact ⟨ev' z, rfl, hq z rfl⟩
      · cases q with
        | none => rfl
        | some z => simp at hn
    refine aslice_ok h hfree hR (hev x (by simp [Op.operands])) (opt lo fun y hy => hev y (by simp [Op.operands, hy])) (opt hi fun y hy => hev y (by simp [Op.operands, hy]))
      ⟨fun hn => by cases mx <;> simp_all, opt mx fun y hy => hev y (by simp [Op.operands, hy])⟩ he (fun v hr => by simp [execOp, hr])
  case h_7 c heq =>
    simp only at heq; subst heq
    obtain ⟨callee, args, argTypes⟩ := c
    simp only [Op.operands, Call.operands] at hev
    split at he
    · rename_i s x t tx e1 e2 e3
      simp only at e1 e2 e3; subst e1
      obtain ⟨hfree, hR⟩ := hnew rfl
      obtain rfl : args = #[s, x] := Array.toList_inj.1 e2
      obtain rfl : argTypes = #[t, tx] := Array.toList_inj.1 e3
      exact aappend_ok (ty := type) h hbase hfree hR (hev s (by simp)) (hev x (by simp)) he (fun v w' hr => by simp [execOp, resolve, invoke, builtin, hr])
    · rename_i d x t tx e1 e2 e3
      simp only at e1 e2 e3; subst e1
      obtain rfl : args = #[d, x] := Array.toList_inj.1 e2
      obtain rfl : argTypes = #[t, tx] := Array.toList_inj.1 e3
      obtain ⟨w', hr, hp⟩ := acopy_ok (ty := type) (tx := tx) (w := w) h (hev d (by simp)) (hev x (by simp)) he
      refine ⟨R, v, w', .inl (by simp [execOp, resolve, invoke, builtin, hr]), ?_, hp, fun _ _ => rfl⟩
      unfold acopy at he
      split at he
      · split at he
        · split at he
          · simp only [Option.some.injEq, Prod.mk.injEq] at he
            obtain ⟨rfl, _⟩ := he
            exact .int _ _
          · cases he
        · cases he
      · cases he
    · rename_i x t e1 e2 e3
      simp only at e1 e2 e3; subst e1
      obtain rfl : args = #[x] := Array.toList_inj.1 e2
      obtain rfl : argTypes = #[t] := Array.toList_inj.1 e3
      obtain ⟨w', hr, hp⟩ := aclear_ok (ty := type) (w := w) h (hev x (by simp)) he
      refine ⟨R, v, w', .inl (by simp [execOp, resolve, invoke, builtin, hr]), ?_, hp, fun _ _ => rfl⟩
      have : v = undef := by
        unfold aclear at he
        split at he
        · simp only [Option.some.injEq, Prod.mk.injEq] at he; exact he.1.symm
        · split at he
          · simp only [Option.some.injEq, Prod.mk.injEq] at he; exact he.1.symm
          · split at he
            · split at he
              · simp only [Option.some.injEq, Prod.mk.injEq] at he; exact he.1.symm
              · cases he
            · cases he
        · cases he
      rw [this]; exact .undef R
    · cases he
  case h_8 => cases he
/-- The two together. -/
def aop (P : Program) (o : Oper) (ev : Operand → Value) (m : AM) (n : Nat) : Option (Value × AM) :=
  match aquiet P o ev m with
  | some v => some (v, m)
  | none => aloud P o ev m n
theorem aop_ok (h : MRep base R m w) (hbase : base ≤ w.heap.size) {o : Oper} (hnew : needsNew o.op = true → m[n]? = some none ∧ R n = none) {ev ev' : Operand → Value} {v : Value} {m' : AM} (hev : ∀ x ∈ o.op.operands, Rel R (ev x) (ev' x))
    (he : aop P o ev m n = some (v, m')) : Does P base R m n w (execOp ev' o) v m' := by
  unfold aop at he
  split at he
  · rename_i u hq
    simp only [Option.some.injEq, Prod.mk.injEq] at he
    obtain ⟨rfl, rfl⟩ := he
    obtain ⟨v', h1, h2⟩ := aquiet_ok (w := w) h.held hev hq
    exact does_same h (.inl h1) h2
  · exact aloud_ok h hbase hnew hev he
end
end Go.Proofs.Ytmomjannlnafcaa.Sim
