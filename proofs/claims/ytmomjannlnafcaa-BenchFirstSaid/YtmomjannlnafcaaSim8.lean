import Derived.Test.YtmomjannlnafcaaSim7
namespace Go.Proofs.Ytmomjannlnafcaa.Sim
set_option linter.unusedSimpArgs false
set_option linter.unusedVariables false
open Go.RowKit
section
variable {P : Program} {base : Nat} {R : Pl} {m : AM} {w : World} {n : Nat}
/-! ### Regions, in the order of the text -/
/-- A frame's slots, in a tree: index 0 at the root, odd ones to the left. -/
inductive Tr
  | leaf
  | node (v : Value) (l r : Tr)
def Tr.get : Tr → Nat → Value
  | .leaf, _ => undef
  | .node v l r, i => if Nat.beq i 0 then v else if Nat.beq (i % 2) 1 then l.get (i / 2) else r.get (i / 2 - 1)
def Tr.put : Nat → Tr → Nat → Value → Tr
  | 0, t, _, _ => t
  | f + 1, .leaf, i, x => if Nat.beq i 0 then .node x .leaf .leaf else if Nat.beq (i % 2) 1 then .node undef (Tr.put f .leaf (i / 2) x) .leaf else .node undef .leaf (Tr.put f .leaf (i / 2 - 1) x)
  | f + 1, .node v l r, i, x => if Nat.beq i 0 then .node x l r else if Nat.beq (i % 2) 1 then .node v (Tr.put f l (i / 2) x) r else .node v l (Tr.put f r (i / 2 - 1) x)
theorem beq_nat (a b : Nat) : (Nat.beq a b = true) ↔ a = b := by simp
theorem Tr.get_put : ∀ (f : Nat) (t : Tr) (i j : Nat) (x : Value), i < f → (Tr.put f t i x).get j = if j = i then x else t.get j := by
  intro f
  induction f with
  | zero => intro t i j x h; omega
  | succ f ih =>
    intro t i j x h
    cases t with
    | leaf =>
      simp only [Tr.put, beq_nat]
      by_cases hi : i = 0
      · subst hi
        rw [if_pos rfl]
        simp only [Tr.get, beq_nat]
        by_cases hj : j = 0
        · simp [hj]
        · simp [hj]
      · rw [if_neg hi]
        by_cases ho : i % 2 = 1
        · rw [if_pos ho]
          simp only [Tr.get, beq_nat]
          by_cases hj : j = 0
          · subst hj; simp; omega
          · rw [if_neg hj]
            by_cases hp : j % 2 = 1
            · rw [if_pos hp, ih _ _ _ _ (by omega)]
              by_cases e : j = i
              · subst e; simp
              · rw [if_neg e, if_neg (by omega)]; simp [Tr.get]
            · rw [if_neg hp, if_neg (fun e => hp (by rw [e]; exact ho))]
        · rw [if_neg ho]
          simp only [Tr.get, beq_nat]
          by_cases hj : j = 0
          · subst hj; simp; omega
          · rw [if_neg hj]
            by_cases hp : j % 2 = 1
            · rw [if_pos hp, if_neg (fun e => ho (by rw [← e]; exact hp))]
            · rw [if_neg hp, ih _ _ _ _ (by omega)]
              by_cases e : j = i
              · subst e; simp
              · rw [if_neg e, if_neg (by omega)]; simp [Tr.get]
    | node v l r =>
      simp only [Tr.put, beq_nat]
      by_cases hi : i = 0
      · subst hi
        rw [if_pos rfl]
        simp only [Tr.get, beq_nat]
        by_cases hj : j = 0
        · simp [hj]
        · simp [hj]
      · rw [if_neg hi]
        by_cases ho : i % 2 = 1
        · rw [if_pos ho]
          simp only [Tr.get, beq_nat]
          by_cases hj : j = 0
          · subst hj; simp; omega
          · rw [if_neg hj, if_neg hj]
            by_cases hp : j % 2 = 1
            · rw [if_pos hp, if_pos hp, ih _ _ _ _ (by omega)]
              by_cases e : j = i
              · subst e; simp
              · rw [if_neg e, if_neg (by omega)]
            · rw [if_neg hp, if_neg hp, if_neg (fun e => hp (by rw [e]; exact ho))]
        · rw [if_neg ho]
          simp only [Tr.get, beq_nat]
          by_cases hj : j = 0
          · subst hj; simp; omega
          · rw [if_neg hj, if_neg hj]
            by_cases hp : j % 2 = 1
            · rw [if_pos hp, if_pos hp, if_neg (fun e => ho (by rw [← e]; exact hp))]
            · rw [if_neg hp, if_neg hp, ih _ _ _ _ (by omega)]
              by_cases e : j = i
              · subst e; simp
              · rw [if_neg e, if_neg (by omega)]
/-! ### Forcing: the kernel is to hold values, not what they came from -/
section force
variable {β : Type}
def fNat (n : Nat) (k : Nat → β) : β := match n with | 0 => k 0 | m + 1 => k (m + 1)
theorem fNat_eq (n : Nat) (k : Nat → β) : fNat n k = k n := by cases n <;> rfl
def fInt (i : Int) (k : Int → β) : β := match i with | .ofNat n => fNat n fun n => k (.ofNat n) | .negSucc n => fNat n fun n => k (.negSucc n)
theorem fInt_eq (i : Int) (k : Int → β) : fInt i k = k i := by cases i <;> simp [fInt, fNat_eq]
def fList {α : Type} (f : α → (α → β) → β) : List α → (List α → β) → β
  | [], k => k []
  | a :: l, k => f a fun a => fList f l fun l => k (a :: l)
theorem fList_eq {α : Type} {f : α → (α → β) → β} (hf : ∀ a k, f a k = k a) : ∀ (l : List α) (k : List α → β), fList f l k = k l
  | [], _ => rfl
  | a :: l, k => by simp [fList, hf, fList_eq hf l]
def fArr {α : Type} (f : α → (α → β) → β) (a : Array α) (k : Array α → β) : β := match a with | ⟨l⟩ => fList f l fun l => k ⟨l⟩
theorem fArr_eq {α : Type} {f : α → (α → β) → β} (hf : ∀ a k, f a k = k a) (a : Array α) (k : Array α → β) : fArr f a k = k a := by cases a; simp [fArr, fList_eq hf]
def fBool (b : Bool) (k : Bool → β) : β := match b with | true => k true | false => k false
theorem fBool_eq (b : Bool) (k : Bool → β) : fBool b k = k b := by cases b <;> rfl
def fV : Nat → Value → (Value → β) → β
  | 0, v, K => K v
  | d + 1, v, K =>
    match v with
    | .int k n => fInt n fun n => K (.int k n)
    | .bool b => fBool b fun b => K (.bool b)
    | .pointer (some ⟨b, o, s⟩) => fNat b fun b => fNat o fun o => K (.pointer (some ⟨b, o, s⟩))
    | .slice (some ⟨b, o, s⟩) n c => fNat b fun b => fNat o fun o => fNat n fun n => fNat c fun c => K (.slice (some ⟨b, o, s⟩) n c)
    | .agg c => fArr (fV d) c fun c => K (.agg c)
    | .tuple c => fArr (fV d) c fun c => K (.tuple c)
    | .func fn a c => fArr (fV d) a fun a => fArr (fV d) c fun c => K (.func fn a c)
    | v => K v
theorem fV_eq : ∀ (d : Nat) (v : Value) (k : Value → β), fV d v k = k v
  | 0, _, _ => rfl
  | d + 1, v, k => by
    have ih : ∀ v (k : Value → β), fV d v k = k v := fV_eq d
    unfold fV
    split <;> simp [fInt_eq, fBool_eq, fNat_eq, fArr_eq ih]
def fBlk (b : Option Blk) (k : Option Blk → β) : β :=
  match b with
  | none => k none
  | some ⟨c, q, s⟩ => fList (fV 3) c fun c => fNat s fun s => match q with | .own => k (some ⟨c, .own, s⟩) | .grow => k (some ⟨c, .grow, s⟩) | .ro => k (some ⟨c, .ro, s⟩) | .edge => k (some ⟨c, .edge, s⟩)
theorem fBlk_eq (b : Option Blk) (k : Option Blk → β) : fBlk b k = k b := by
  cases b with
  | none => rfl
  | some b => obtain ⟨c, q, s⟩ := b; simp only [fBlk, fList_eq (fV_eq 3), fNat_eq]; cases q <;> rfl
def fM (m : AM) (k : AM → β) : β := fList fBlk m k
theorem fM_eq (m : AM) (k : AM → β) : fM m k = k m := fList_eq fBlk_eq m k
def fTr : Tr → (Tr → β) → β
  | .leaf, k => k .leaf
  | .node v l r, k => fV 3 v fun v => fTr l fun l => fTr r fun r => k (.node v l r)
theorem fTr_eq : ∀ (t : Tr) (k : Tr → β), fTr t k = k t
  | .leaf, _ => rfl
  | .node v l r, k => by simp [fTr, fV_eq, fTr_eq l, fTr_eq r]
/-- A slot is written, the way to it in plain sight. -/
def Tr.putK : Nat → Tr → Nat → Value → (Tr → β) → β
  | 0, t, _, _, k => k t
  | f + 1, .leaf, i, x, k => if Nat.beq i 0 then k (.node x .leaf .leaf) else if Nat.beq (i % 2) 1 then Tr.putK f .leaf (i / 2) x fun t => k (.node undef t .leaf) else Tr.putK f .leaf (i / 2 - 1) x fun t => k (.node undef .leaf t)
  | f + 1, .node v l r, i, x, k => if Nat.beq i 0 then k (.node x l r) else if Nat.beq (i % 2) 1 then Tr.putK f l (i / 2) x fun t => k (.node v t r) else Tr.putK f r (i / 2 - 1) x fun t => k (.node v l t)
theorem Tr.putK_eq : ∀ (f : Nat) (t : Tr) (i : Nat) (x : Value) (k : Tr → β), Tr.putK f t i x k = k (Tr.put f t i x)
  | 0, _, _, _, _ => rfl
  | f + 1, .leaf, i, x, k => by
    simp only [Tr.putK, Tr.put]
    split
    · rfl
    · split
      · rw [Tr.putK_eq f]
      · rw [Tr.putK_eq f]
  | f + 1, .node v l r, i, x, k => by
    simp only [Tr.putK, Tr.put]
    split
    · rfl
    · split
      · rw [Tr.putK_eq f]
      · rw [Tr.putK_eq f]
end force
structure Fr where
  size : Nat
  tr : Tr
def Fr.get (t : Fr) (i : Nat) : Value := t.tr.get i
def Fr.set (t : Fr) (i : Nat) (v : Value) : Fr := if Nat.blt i t.size then { t with tr := Tr.put (i + 1) t.tr i v } else t
def FRels (R : Pl) (t : Fr) (u : Array Value) : Prop := t.size = u.size ∧ ∀ i, Rel R (t.get i) (u.getD i undef)
theorem FRels.mono {R R' : Pl} {t : Fr} {u : Array Value} (h : FRels R t u) (hR : R.le R') : FRels R' t u := ⟨h.1, fun i => (h.2 i).mono hR⟩
theorem FRels.set {R : Pl} {t : Fr} {u : Array Value} (h : FRels R t u) (i : Nat) {v v' : Value} (hv : Rel R v v') : FRels R (t.set i v) (u.setIfInBounds i v') := by
  obtain ⟨h1, h2⟩ := h
  unfold Fr.set
  by_cases hi : i < t.size
  · rw [if_pos (by rw [Nat.blt_eq]; exact hi)]
    refine ⟨by simpa using h1, fun j => ?_⟩
    show Rel R ((Tr.put (i + 1) t.tr i v).get j) _
    rw [Tr.get_put _ _ _ _ _ (by omega)]
    by_cases e : j = i
    · subst e
      have : j < u.size := by omega
      simpa [this] using hv
    · rw [if_neg e]
      have := h2 j
      simp only [Array.getD_eq_getD_getElem?, Array.getElem?_setIfInBounds_ne (fun x => e x.symm : i ≠ j)] at this ⊢
      exact this
  · rw [if_neg (by rw [Nat.blt_eq]; exact hi)]
    refine ⟨by simpa using h1, fun j => ?_⟩
    have : u.setIfInBounds i v' = u := by
      apply Array.ext_getElem?
      intro k
      rw [Array.getElem?_setIfInBounds]
      split
      · subst_vars; rw [if_neg (by omega), Array.getElem?_eq_none (by omega)]
      · rfl
    rw [this]; exact h2 j
def Fr.fill : Fr → Nat → List Value → Fr
  | t, _, [] => t
  | t, i, v :: l => (t.set i v).fill (i + 1) l
/-- A frame at its beginning. -/
def Fr.start (n : Nat) (args : Array Value) : Fr := Fr.fill ⟨n, .leaf⟩ 0 args.toList
theorem FRels.fill {R : Pl} : ∀ (l l' : List Value) (t : Fr) (u : Array Value) (i : Nat), FRels R t u → RelL R l l' → FRels R (t.fill i l) ((l'.zipIdx i).foldl (fun u (x, j) => u.setIfInBounds j x) u)
  | [], [], t, u, i, h, _ => h
  | [], _ :: _, _, _, _, _, hl => by have := hl.1; simp at this
  | _ :: _, [], _, _, _, _, hl => by have := hl.1; simp at this
  | v :: l, v' :: l', t, u, i, h, hl => by
    simp only [Fr.fill, List.zipIdx_cons, List.foldl_cons]
    refine FRels.fill l l' _ _ (i + 1) (h.set i ?_) ⟨by simpa using hl.1, fun j u hj => hl.2 (j + 1) u (by simpa using hj)⟩
    obtain ⟨x, h1, h2⟩ := hl.2 0 v rfl
    simp at h1; subst h1; exact h2
theorem foldl_set_get : ∀ (l : List Value) (i : Nat) (u : Array Value) (k : Nat), ((l.zipIdx i).foldl (fun u (x, j) => u.setIfInBounds j x) u)[k]? = if k < u.size then (if i ≤ k ∧ k < i + l.length then l[k - i]? else u[k]?) else none
  | [], i, u, k => by
    simp only [List.zipIdx_nil, List.foldl_nil, List.length_nil]
    by_cases hk : k < u.size
    · rw [if_pos hk, if_neg (by omega)]
    · rw [if_neg hk, Array.getElem?_eq_none (by omega)]
  | v :: l, i, u, k => by
    simp only [List.zipIdx_cons, List.foldl_cons]
    rw [foldl_set_get l (i + 1) _ k]
    simp only [Array.size_setIfInBounds, List.length_cons]
    by_cases hk : k < u.size
    · rw [if_pos hk, if_pos hk]
      by_cases h1 : i + 1 ≤ k ∧ k < i + 1 + l.length
      · rw [if_pos h1, if_pos (by omega), show k - i = (k - (i + 1)) + 1 by omega, List.getElem?_cons_succ]
      · rw [if_neg h1, Array.getElem?_setIfInBounds]
        by_cases h2 : i = k
        · subst h2
          rw [if_pos rfl, if_pos hk, if_pos (by omega)]
          simp
        · rw [if_neg h2, if_neg (by omega)]
    · rw [if_neg hk, if_neg hk]
theorem FRels.start {R : Pl} {args args' : Array Value} {n : Nat} (h : Rels R args args') (hn : args.size ≤ n) : FRels R (Fr.start n args) (args' ++ Array.replicate (n - args'.size) undef) := by
  have h0 : FRels R ⟨n, .leaf⟩ (Array.replicate n undef) := ⟨by simp, fun i => by
    have e : (Array.replicate n undef).getD i undef = undef := by by_cases hi : i < n <;> simp [hi]
    rw [e]; exact Rel.undef R⟩
  have h1 := FRels.fill args.toList args'.toList _ _ 0 h0 h.relL
  have hs := h.1
  have e : (args'.toList.zipIdx 0).foldl (fun u (x, j) => u.setIfInBounds j x) (Array.replicate n undef) = args' ++ Array.replicate (n - args'.size) undef := by
    apply Array.ext_getElem?
    intro k
    rw [foldl_set_get, Array.getElem?_append]
    simp only [Array.size_replicate, Array.length_toList, Nat.zero_add, Nat.zero_le, true_and, Nat.sub_zero]
    by_cases hk : k < n
    · rw [if_pos hk]
      by_cases h2 : k < args'.size
      · rw [if_pos h2, if_pos h2]; simp
      · rw [if_neg h2, if_neg h2, Array.getElem?_replicate, Array.getElem?_replicate, if_pos hk, if_pos (by omega)]
    · rw [if_neg hk, if_neg (by omega), Array.getElem?_replicate, if_neg (by omega)]
  rw [e] at h1
  exact h1
def aev (t : Fr) : Operand → Value
  | .tmp i => t.get i
  | .const v => v
  | .global _ => undef
  | .func f => .func (.func f) #[] #[]
def okOperand : Operand → Bool
  | .const v => g1 v
  | .global _ => false
  | _ => true
theorem aev_rel {t : Fr} {a : Act} (h : FRels R t a.tmps) {x : Operand} (hx : okOperand x = true) : Rel R (aev t x) (a.eval x) := by
  cases x with
  | tmp i => exact h.2 i
  | const v => exact g1_rel hx
  | global g => cases hx
  | func f => exact g1_rel (v := .func (.func f) #[] #[]) rfl
def aput (t : Fr) (d : Option Tmp) (v : Value) : Fr :=
  match d with
  | some d => t.set d v
  | none => t
def fput {β : Type} (t : Fr) (d : Option Tmp) (v : Value) (k : Fr → β) : β :=
  match d with
  | some d => if Nat.blt d t.size then fV 3 v fun v => Tr.putK (d + 1) t.tr d v fun r => k ⟨t.size, r⟩ else k t
  | none => k t
theorem fput_eq {β : Type} (t : Fr) (d : Option Tmp) (v : Value) (k : Fr → β) : fput t d v k = k (aput t d v) := by
  cases d with
  | none => rfl
  | some d =>
    simp only [fput, aput, Fr.set]
    split <;> simp [fV_eq, Tr.putK_eq]
/-- Does an operation leave the memory as it is? -/
def stillOp : Op → Bool
  | .move _ | .assign _ | .pick .. | .load .. | .binOp .. | .indexAddr .. | .fieldAddr .. | .nilCheck _ | .extract .. | .field .. | .index .. | .unOp .. | .convert .. | .makeFunc .. | .build .. => true
  | _ => false
def fmem {β : Type} (o : Op) (m : AM) (k : AM → β) : β := if stillOp o then k m else fM m k
theorem fmem_eq {β : Type} (o : Op) (m : AM) (k : AM → β) : fmem o m k = k m := by unfold fmem; split; rfl; exact fM_eq m k
theorem aput_rel {t : Fr} {a : Act} (h : FRels R t a.tmps) (d : Option Tmp) {v v' : Value} (hv : Rel R v v') : FRels R (aput t d v) (a.put d v').tmps := by
  cases d with
  | none => exact h
  | some d => exact h.set d hv
theorem put_defers (a : Act) (d : Option Tmp) (v : Value) : (a.put d v).defers = a.defers := by cases d <;> rfl
/-- What a guard reads. -/
def ayielded (ops : Array Oper) (t : Fr) (j : Nat) : Option Bool :=
  match (ops[j]?).bind (·.dst) with
  | some d => match t.get d with
    | .bool b => some b
    | _ => none
  | none => none
theorem getq_rel {t : Fr} {u : Array Value} (h : FRels R t u) (d : Nat) : (match u[d]? with | some (.bool b) => some b | _ => none) = (match t.get d with | .bool b => some b | _ => none) := by
  have := h.2 d
  by_cases hl : d < u.size
  · simp only [Array.getD_eq_getD_getElem?, Array.getElem?_eq_getElem hl, Option.getD_some] at this
    rw [Array.getElem?_eq_getElem hl]
    generalize t.get d = x at this
    generalize u[d] = y at this
    cases this <;> rfl
  · simp only [Array.getD_eq_getD_getElem?, Array.getElem?_eq_none (show u.size ≤ d by omega), Option.getD_none] at this
    rw [Array.getElem?_eq_none (by omega)]
    generalize t.get d = x at this
    generalize hy : undef = y at this
    cases this <;> first | rfl | cases hy
theorem yielded_rel {t : Fr} {a : Act} (h : FRels R t a.tmps) (ops : Array Oper) : yielded ops a.tmps = ayielded ops t := by
  funext j
  unfold yielded ayielded
  cases hd : (ops[j]?).bind (·.dst) with
  | none => rfl
  | some d => exact getq_rel h d
abbrev CallF := FuncId → Array Value → AM → Option (Value × AM)
/-- The function that a call enters, and with what. -/
def acallee (o : Oper) (t : Fr) : Option (FuncId × Array Value) :=
  match o.op with
  | .call c => match c.callee with
    | .value f => match aev t f with
      | .func (.func g) first captured => some (g, first ++ c.args.map (aev t) ++ captured)
      | _ => none
    | _ => none
  | _ => none
def astep (P : Program) (call : CallF) (o : Oper) (t : Fr) (m : AM) : Option (Value × AM) :=
  if o.op.operands.all okOperand then
    match acallee o t with
    | some (f, args) => call f args m
    | none => if needsNew o.op then aop P o (aev t) (m ++ [none]) m.length else aop P o (aev t) m m.length
  else none
def arunOps (P : Program) (call : CallF) (ops : Array Oper) : List Oper → Fr → AM → Option (Fr × AM)
  | [], t, m => some (t, m)
  | o :: rest, t, m =>
    if Region.wanted o (ayielded ops t) then
      match astep P call o t m with
      | some (v, m') => fput t o.dst v fun t => fmem o.op m' fun m => arunOps P call ops rest t m
      | none => none
    else fput t o.dst undef fun t => arunOps P call ops rest t m
/-- Old places stay where they are. -/
def Fresh (m : AM) (R R' : Pl) : Prop := ∀ j, j < m.length → R' j = R j
/-- What is asked of the program. -/
structure Fit (P : Program) : Prop where
  names : ∀ (f : FuncId) (fn : Func), P.funcs[f]? = some fn → (fn.name == "runtime.NumGoroutine") = false
  mixed : P.follows .mixedOrders = true
theorem rels_app {c c' d d' : Array Value} (h : Rels R c c') (g : Rels R d d') : Rels R (c ++ d) (c' ++ d') := by
  have := (h.relL.app g.relL).rels
  have e1 : (c.toList ++ d.toList).toArray = c ++ d := by apply Array.ext'; simp
  have e2 : (c'.toList ++ d'.toList).toArray = c' ++ d' := by apply Array.ext'; simp
  rwa [e1, e2] at this
/-- What steps keep of the memory's list: its places, and what kind of block lies there. -/
def ExtBut (n : Nat) (m m' : AM) : Prop := m.length ≤ m'.length ∧ ∀ (j : Nat) (c : Blk), j < m.length → j ≠ n → m'[j]? = some (some c) → ∃ c0 : Blk, m[j]? = some (some c0) ∧ c.kind = c0.kind
def Ext (m m' : AM) : Prop := m.length ≤ m'.length ∧ ∀ (j : Nat) (c : Blk), j < m.length → m'[j]? = some (some c) → ∃ c0 : Blk, m[j]? = some (some c0) ∧ c.kind = c0.kind
/-- What a call's answer in abstract memory says of the run. -/
def CallOk (P : Program) (f : FuncId) (args : Array Value) (m : AM) (v : Value) (m' : AM) : Prop :=
  Ext m m' ∧ ∀ (base : Nat) (R : Pl) (w : World) (args' : Array Value), base ≤ w.heap.size → MRep base R m w → Rels R args args' →
    Calls P f args' w fun e w' => ∃ v' R', e = .returned v' ∧ Rel R' v v' ∧ Post base m m' R R' w w' ∧ Fresh m R R'
def CallsOk (P : Program) (call : CallF) : Prop := ∀ f args m v m', call f args m = some (v, m') → CallOk P f args m v m'
theorem ExtBut.refl : ExtBut n m m := ⟨Nat.le_refl _, fun j c _ _ h => ⟨c, h, rfl⟩⟩
theorem Ext.refl : Ext m m := ⟨Nat.le_refl _, fun j c _ h => ⟨c, h, rfl⟩⟩
theorem Ext.trans {m1 m2 : AM} (h : Ext m m1) (k : Ext m1 m2) : Ext m m2 := ⟨Nat.le_trans h.1 k.1, fun j c hj hc => by
  obtain ⟨c1, h1, h2⟩ := k.2 j c (Nat.lt_of_lt_of_le hj h.1) hc
  obtain ⟨c2, h3, h4⟩ := h.2 j c1 hj h1
  exact ⟨c2, h3, h2.trans h4⟩⟩
theorem ExtBut.set_n {c : Blk} : ExtBut n m (m.set n (some c)) := ⟨by simp, fun j d _ hne h => ⟨d, by rwa [List.getElem?_set_ne (fun e => hne e.symm)] at h, rfl⟩⟩
theorem ExtBut.set_i {i : Nat} {b : Blk} (hi : m[i]? = some (some b)) {c : Blk} (hk : c.kind = b.kind) : ExtBut n m (m.set i (some c)) := ⟨by simp, fun j d hl _ h => by
  by_cases e : i = j
  · subst e
    rw [List.getElem?_set_self hl] at h
    injection h with h; injection h with h
    exact ⟨b, hi, by rw [← h, hk]⟩
  · rw [List.getElem?_set_ne e] at h
    exact ⟨d, h, rfl⟩⟩
theorem ExtBut.set_none_n {i : Nat} {c : Blk} : ExtBut n m ((m.set i none).set n (some c)) := ⟨by simp, fun j d hl hne h => by
  rw [List.getElem?_set_ne (fun e => hne e.symm)] at h
  by_cases e : i = j
  · subst e
    rw [List.getElem?_set_self hl] at h
    injection h with h; cases h
  · rw [List.getElem?_set_ne e] at h
    exact ⟨d, h, rfl⟩⟩
theorem aloud_ext {o : Oper} {ev : Operand → Value} {v : Value} {m' : AM} (he : aloud P o ev m n = some (v, m')) : ExtBut n m m' := by
  unfold aloud at he
  split at he
  · cases hl : astore P m _ (ev _) (ev _) with
    | none => rw [hl] at he; cases he
    | some u =>
      rw [hl] at he; simp at he
      obtain ⟨_, rfl⟩ := he
      unfold astore at hl
      split at hl
      · split at hl
        · rename_i hb _
          split at hl
          · injection hl with hl; subst hl; exact .set_i hb rfl
          · cases hl
        · cases hl
      · cases hl
  · cases hl : zeroB P _ with
    | none => rw [hl] at he; cases he
    | some z => rw [hl] at he; simp at he; obtain ⟨_, rfl⟩ := he; exact .set_n
  · split at he
    · simp at he; obtain ⟨_, rfl⟩ := he; exact .set_n
    · cases he
  · unfold abuildSlice at he
    repeat' split at he
    all_goals (cases he <;> first | exact .refl | exact .set_n)
  · unfold amake at he
    split at he
    · split at he
      · simp at he; obtain ⟨_, rfl⟩ := he; exact .set_n
      · cases he
    · cases he
  · unfold aslice at he
    repeat' split at he
    all_goals (cases he <;> first | exact .refl | exact .set_n | exact .set_none_n)
  · split at he
    · unfold aappend at he
      repeat' split at he
      all_goals (cases he <;> first | exact .refl | exact .set_n | exact .set_none_n | (apply ExtBut.set_i; assumption; rfl))
    · unfold acopy at he
      repeat' split at he
      all_goals (cases he <;> first | exact .refl | (apply ExtBut.set_i; assumption; rfl))
    · unfold aclear at he
      repeat' split at he
      all_goals (cases he <;> first | exact .refl | (apply ExtBut.set_i; assumption; rfl))
    · cases he
  · cases he
theorem aop_ext {o : Oper} {ev : Operand → Value} {v : Value} {m' : AM} (he : aop P o ev m n = some (v, m')) : ExtBut n m m' := by
  unfold aop at he
  split at he
  · simp at he; rw [he.2]; exact .refl
  · exact aloud_ext he
theorem pad_one : (m ++ [none])[m.length]? = some none := by simp
theorem Ext.of_pad {m' : AM} (h : ExtBut m.length (m ++ [none]) m') : Ext m m' := ⟨by have := h.1; simp at this; omega, fun j c hj hc => by
  obtain ⟨c0, h1, h2⟩ := h.2 j c (by simp; omega) (by omega) hc
  rw [List.getElem?_append_left hj] at h1
  exact ⟨c0, h1, h2⟩⟩
theorem Ext.of_but {m' : AM} (h : ExtBut m.length m m') : Ext m m' := ⟨h.1, fun j c hj hc => h.2 j c hj (by omega) hc⟩
theorem astep_ext {call : CallF} (hc : CallsOk P call) {o : Oper} {t : Fr} {v : Value} {m' : AM} (he : astep P call o t m = some (v, m')) : Ext m m' := by
  unfold astep at he
  split at he
  · split at he
    · exact (hc _ _ _ _ _ he).1
    · split at he
      · exact .of_pad (aop_ext he)
      · exact .of_but (aop_ext he)
  · cases he
theorem wp_of_does {s : Sem Next} {o : Oper} {a : Act} {next : Act → World → Prop} {Q : Exit → Act → World → Prop} {v' : Value} {w' : World} (hs : execOp a.eval o = s) (hr : Ran P s w v' w') (h : next (a.put o.dst v') w') : o.wp P a w next Q := by
  unfold Oper.wp
  rw [hs]
  rcases hr with hr | ⟨hr, rfl⟩
  · rw [hr]; exact h
  · rw [hr]; exact h
theorem run_enter {f : FuncId} {fn : Func} {c : Code} (hf : P.funcs[f]? = some fn) (hname : (fn.name == "runtime.NumGoroutine") = false) (hb : fn.body = some c) (args : Array Value) (w : World) :
    (callFunc f args).run P w = .ok (.enter f args) w := by
  have h1 : fn.name ≠ "runtime.NumGoroutine" := by simpa using hname
  simp [callFunc, hf, h1, hb]
theorem acallee_ok (hP : Fit P) {o : Oper} {t : Fr} {a : Act} {f : FuncId} {args : Array Value} (ht : FRels R t a.tmps) (hok : o.op.operands.all okOperand = true) (hc : acallee o t = some (f, args))
    {fn : Func} {c : Code} (hf : P.funcs[f]? = some fn) (hb : fn.body = some c) :
    ∃ args', Rels R args args' ∧ (execOp a.eval o).run P w = .ok (.enter f args') w := by
  unfold acallee at hc
  obtain ⟨dst, op, type, pos, after, guard⟩ := o
  simp only at hc hok
  split at hc
  · rename_i cc
    obtain ⟨callee, cargs, ctypes⟩ := cc
    simp only at hc
    split at hc
    · rename_i x
      have hall : ∀ y ∈ (Op.call { callee := .value x, args := cargs, argTypes := ctypes }).operands, okOperand y = true := fun y hy => Array.all_eq_true'.1 hok y hy
      have hx : Rel R (aev t x) (a.eval x) := aev_rel ht (hall x (by simp [Op.operands, Call.operands]))
      split at hc
      · rename_i g first captured hg
        simp only [Option.some.injEq, Prod.mk.injEq] at hc
        obtain ⟨rfl, rfl⟩ := hc
        rw [hg] at hx
        generalize hq : a.eval x = q at hx
        cases hx with
        | func _ _ _ f' c' k1 k2 k3 k4 =>
          have hargs := rels_map (R := R) (ev := aev t) (ev' := a.eval) cargs (fun y hy => aev_rel ht (hall y (by simp [Op.operands, Call.operands, hy])))
          refine ⟨f' ++ cargs.map a.eval ++ c', rels_app (rels_app ⟨k1, k2⟩ hargs) ⟨k3, k4⟩, ?_⟩
          simp [execOp, resolve, hq, Deferred.ofValue, invoke, run_enter hf (hP.names _ _ hf) hb]
      · cases hc
    · cases hc
  · cases hc
/-- One operation. -/
theorem astep_ok (hP : Fit P) {call : CallF} (hcall : CallsOk P call) (hbody : ∀ f args m v m', call f args m = some (v, m') → ∃ fn c, P.funcs[f]? = some fn ∧ fn.body = some c) {o : Oper} {t : Fr} {a : Act} {v : Value} {m' : AM} (h : MRep base R m w) (hbase : base ≤ w.heap.size) (ht : FRels R t a.tmps)
    (he : astep P call o t m = some (v, m')) {next : Act → World → Prop} {Q : Exit → Act → World → Prop}
    (hn : ∀ R' v' w', Rel R' v v' → Post base m m' R R' w w' → Fresh m R R' → next (a.put o.dst v') w') : o.wp P a w next Q := by
  unfold astep at he
  split at he
  · rename_i hok
    have hev : ∀ x ∈ o.op.operands, Rel R (aev t x) (a.eval x) := fun x hx => aev_rel ht (Array.all_eq_true'.1 hok x hx)
    split at he
    · rename_i f args hc
      obtain ⟨fn, c, hf, hb⟩ := hbody _ _ _ _ _ he
      obtain ⟨args', h1, h2⟩ := acallee_ok (w := w) hP ht hok hc hf hb
      unfold Oper.wp
      rw [h2]
      refine ((hcall _ _ _ _ _ he).2 base R w args' hbase h h1).mono ?_
      rintro e w' ⟨v', R', rfl, k1, k2, k3⟩
      exact hn R' v' w' k1 k2 k3
    · split at he
      · have hm := h.pad 1
        obtain ⟨R', v', w', k1, k2, k3, k4⟩ := aop_ok (n := m.length) hm hbase (fun _ => ⟨pad_one, h.none_ _ (Nat.le_refl _)⟩) hev he
        refine wp_of_does rfl k1 (hn R' v' w' k2 ⟨k3.le, k3.rep, k3.os, k3.tape, k3.output, k3.size, fun k hk ho => k3.keep k hk fun ho' => ho ho'.pad, fun k ho => (k3.sub k ho).imp id Owned.pad⟩ fun j hj => k4 j (by omega))
      · rename_i hnn
        have hnn' : needsNew o.op = false := by simpa using hnn
        obtain ⟨R', v', w', k1, k2, k3, k4⟩ := aop_ok (n := m.length) h hbase (fun x => by rw [hnn'] at x; cases x) hev he
        exact wp_of_does rfl k1 (hn R' v' w' k2 k3 fun j hj => k4 j (by omega))
  · cases he
theorem Fresh.trans {m1 : AM} {R1 R2 : Pl} (h : Fresh m R R1) (k : Fresh m1 R1 R2) (hl : m.length ≤ m1.length) : Fresh m R R2 := fun j hj => (k j (by omega)).trans (h j hj)
theorem Fresh.refl : Fresh m R R := fun _ _ => rfl
/-- What the calls of functions owe. -/
structure CallFOk (P : Program) (call : CallF) : Prop where
  ok : CallsOk P call
  body : ∀ f args m v m', call f args m = some (v, m') → ∃ fn c, P.funcs[f]? = some fn ∧ fn.body = some c
theorem arunOps_ext {call : CallF} (hc : CallFOk P call) {ops : Array Oper} : ∀ (l : List Oper) (t : Fr) (m : AM) (t' : Fr) (m' : AM), arunOps P call ops l t m = some (t', m') → Ext m m'
  | [], t, m, t', m', h => by simp [arunOps] at h; rw [h.2]; exact .refl
  | o :: rest, t, m, t', m', h => by
    simp only [arunOps, fput_eq, fmem_eq] at h
    split at h
    · split at h
      · rename_i v m1 hs
        exact (astep_ext hc.ok hs).trans (arunOps_ext hc rest _ _ _ _ h)
      · cases h
    · exact arunOps_ext hc rest _ _ _ _ h
theorem arunOps_ok (hP : Fit P) {call : CallF} (hc : CallFOk P call) {ops : Array Oper} {Q : Exit → Act → World → Prop} : ∀ (l : List Oper) (k : Nat) (t : Fr) (m : AM) (t' : Fr) (m' : AM), (∀ j, l[j]? = ops[k + j]?) →
    arunOps P call ops l t m = some (t', m') → ∀ (R : Pl) (a : Act) (w : World), base ≤ w.heap.size → MRep base R m w → FRels R t a.tmps →
    (∀ R' a' w', FRels R' t' a'.tmps → a'.defers = a.defers → Post base m m' R R' w w' → Fresh m R R' → Q .normal a' w') → wpOps P ops Q (List.range' k l.length) a w
  | [], k, t, m, t', m', _, h, R, a, w, hb, hm, ht, hQ => by
    simp [arunOps] at h
    obtain ⟨rfl, rfl⟩ := h
    exact hQ R a w ht rfl (.refl hm) .refl
  | o :: rest, k, t, m, t', m', hl, h, R, a, w, hb, hm, ht, hQ => by
    have h0 : ops[k]? = some o := by simpa using (hl 0).symm
    have hrest : ∀ j, rest[j]? = ops[(k + 1) + j]? := fun j => by have := hl (j + 1); simpa [Nat.add_assoc, Nat.add_comm 1 j] using this
    simp only [List.length_cons, List.range'_succ]
    simp only [arunOps, fput_eq, fmem_eq] at h
    rw [wpOps]
    simp only [h0]
    rw [yielded_rel ht ops]
    split at h
    · rename_i hw
      simp only [hw, if_true]
      refine .inl ?_
      split at h
      · rename_i v m1 hs
        refine astep_ok hP hc.ok hc.body hm hb ht hs ?_
        intro R1 v1 w1 k1 k2 k3
        refine arunOps_ok hP hc rest (k + 1) _ _ _ _ hrest h R1 _ w1 (Nat.le_trans hb k2.size) k2.rep (aput_rel (ht.mono k2.le) o.dst k1) ?_
        intro R2 a2 w2 q1 q2 q3 q4
        exact hQ R2 a2 w2 q1 (q2.trans (put_defers _ _ _)) (k2.trans q3) (k3.trans q4 (astep_ext hc.ok hs).1)
      · cases h
    · rename_i hw
      simp only [hw]
      refine arunOps_ok hP hc rest (k + 1) _ _ _ _ hrest h R _ w hb hm (aput_rel ht o.dst (.undef R)) ?_
      intro R2 a2 w2 q1 q2 q3 q4
      exact hQ R2 a2 w2 q1 (q2.trans (put_defers _ _ _)) q3 q4
end
end Go.Proofs.Ytmomjannlnafcaa.Sim
