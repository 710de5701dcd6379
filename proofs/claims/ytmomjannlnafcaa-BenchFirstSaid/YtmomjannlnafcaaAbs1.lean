/- A logic for Go's code over the abstract memory: what is known of slots and blocks; operations; regions, in whatever order. -/
import Derived.Test.YtmomjannlnafcaaSim11
namespace Go.Proofs.Ytmomjannlnafcaa.Abs
set_option linter.unusedSimpArgs false
set_option linter.unusedVariables false
open Go.RowKit
open Go.Proofs.Ytmomjannlnafcaa.Sim
/-- What is known of the slots. -/
abbrev Fm := Nat → Option Value
def put (t : Fm) (d : Nat) (v : Value) : Fm := fun j => cond (Nat.beq j d) (some v) (t j)
def putO (t : Fm) (d : Option Tmp) (v : Value) : Fm := match d with
  | some d => put t d v
  | none => t
def fr : List (Nat × Value) → Fm
  | [] => fun _ => none
  | (d, v) :: l => put (fr l) d v
structure FR (R : Pl) (n : Nat) (t : Fm) (u : Array Value) : Prop where
  size : u.size = n
  rel : ∀ i v, t i = some v → Rel R v (u.getD i undef)
section
variable {P : Program} {base n nt : Nat} {R R' : Pl} {m : AM} {w : World} {t t1 : Fm} {u : Array Value} {ops : Array Oper}
theorem FR.mono (h : FR R n t u) (hR : R.le R') : FR R' n t u := ⟨h.size, fun i v hi => (h.rel i v hi).mono hR⟩
theorem FR.weak (h : FR R n t u) (hs : ∀ i v, t1 i = some v → t i = some v) : FR R n t1 u := ⟨h.size, fun i v hi => h.rel i v (hs i v hi)⟩
theorem put_same (t : Fm) (d : Nat) (v : Value) : put t d v d = some v := by simp [put]
theorem put_ne (t : Fm) {d j : Nat} (v : Value) (h : j ≠ d) : put t d v j = t j := by
  have : Nat.beq j d = false := by
    cases e : Nat.beq j d with
    | false => rfl
    | true => exact absurd (Nat.eq_of_beq_eq_true e) h
  simp [put, this]
theorem put_comm (t : Fm) {d e : Nat} (v x : Value) (h : d ≠ e) : put (put t d v) e x = put (put t e x) d v := by
  funext j
  by_cases h1 : j = d
  · subst h1; rw [put_ne _ _ h, put_same, put_same]
  · by_cases h2 : j = e
    · subst h2; rw [put_same, put_ne _ _ h1, put_same]
    · rw [put_ne _ _ h2, put_ne _ _ h1, put_ne _ _ h1, put_ne _ _ h2]
theorem FR.put (h : FR R n t u) {d : Nat} (hd : d < n) {v v' : Value} (hv : Rel R v v') : FR R n (put t d v) (u.setIfInBounds d v') := by
  have hs := h.size
  refine ⟨by simpa using hs, fun i x hi => ?_⟩
  by_cases e : i = d
  · subst e
    rw [put_same] at hi
    injection hi with hi; subst hi
    simp [show i < u.size by omega, hv]
  · rw [put_ne _ _ e] at hi
    have := h.rel i x hi
    simp only [Array.getD_eq_getD_getElem?] at this ⊢
    rw [Array.getElem?_setIfInBounds_ne (Ne.symm e)]
    exact this
theorem FR.putO {a : Act} (h : FR R n t a.tmps) {d : Option Tmp} (hd : ∀ e, d = some e → e < n) {v v' : Value} (hv : Rel R v v') : FR R n (putO t d v) (a.put d v').tmps := by
  cases d with
  | none => exact h
  | some d => exact h.put (hd d rfl) hv
def evo (t : Fm) : Operand → Option Value
  | .tmp i => t i
  | .const v => if g1 v then some v else none
  | .func f => some (.func (.func f) #[] #[])
  | .global _ => none
theorem evo_rel {a : Act} (h : FR R n t a.tmps) {x : Operand} {v : Value} (hx : evo t x = some v) : Rel R v (a.eval x) := by
  cases x with
  | tmp i => exact h.rel i v hx
  | const c =>
    simp only [evo] at hx
    split at hx
    · rename_i hg
      injection hx with hx; subst hx
      exact g1_rel hg
    · cases hx
  | global g => cases hx
  | func f =>
    simp only [evo, Option.some.injEq] at hx
    subst hx
    exact g1_rel (v := .func (.func f) #[] #[]) rfl
def Kn (t : Fm) (o : Oper) (ev : Operand → Value) : Prop := ∀ x ∈ o.op.operands, evo t x = some (ev x)
/-- Operations that write nothing, make nothing and call nothing. -/
def stillB (P : Program) : Op → Bool
  | .move _ | .assign _ | .pick .. | .load .. | .build .. | .fieldAddr .. | .indexAddr .. | .field .. | .index .. | .extract .. | .nilCheck _ | .makeFunc .. | .binOp .. | .unOp .. => true
  | .convert s d _ => match P.underlying s, P.underlying d with
    | some (.int _), some (.int _) => true
    | _, _ => false
  | .call c => match c.callee with
    | .builtin .len | .builtin .min | .builtin .max => true
    | _ => false
  | _ => false
/-- Of these: those that do not look at memory. -/
def pureB (P : Program) (o : Op) : Bool := stillB P o && match o with | .load .. => false | _ => true
/-- What an operation comes to, wherever the blocks lie. -/
def Loud (P : Program) (o : Oper) (ev : Operand → Value) (m : AM) (K : Value → AM → Prop) : Prop :=
  ∀ (base : Nat) (R : Pl) (w : World) (a : Act) (Q : Exit → Act → World → Prop) (next : Act → World → Prop), base ≤ w.heap.size → MRep base R m w → (∀ x ∈ o.op.operands, Rel R (ev x) (a.eval x)) →
    (∀ R' v v' m' w', Rel R' v v' → Post base m m' R R' w w' → K v m' → next (a.put o.dst v') w') → o.wp P a w next Q
def AOp (P : Program) (o : Oper) (ev : Operand → Value) (m : AM) (K : Value → AM → Prop) : Prop :=
  (∃ v, aquiet P o ev m = some v ∧ K v m) ∨ (stillB P o.op = false ∧ Loud P o ev m K)
theorem AOp.loud {o : Oper} {ev : Operand → Value} {K : Value → AM → Prop} (h : AOp P o ev m K) : Loud P o ev m K := by
  rcases h with ⟨v, h1, h2⟩ | ⟨_, h⟩
  · intro base R w a Q next hb hm hev hn
    obtain ⟨v', k1, k2⟩ := aquiet_ok (P := P) (w := w) (ev' := a.eval) hm.held hev h1
    exact wp_of_does rfl (.inl k1) (hn R v v' m w k2 (.refl hm) h2)
  · exact h
theorem Loud.mono {o : Oper} {ev : Operand → Value} {K K' : Value → AM → Prop} (h : Loud P o ev m K) (hk : ∀ v m', K v m' → K' v m') : Loud P o ev m K' :=
  fun base R w a Q next hb hm hev hn => h base R w a Q next hb hm hev fun R' v v' m' w' h1 h2 h3 => hn R' v v' m' w' h1 h2 (hk _ _ h3)
theorem AOp.mono {o : Oper} {ev : Operand → Value} {K K' : Value → AM → Prop} (h : AOp P o ev m K) (hk : ∀ v m', K v m' → K' v m') : AOp P o ev m K' := by
  rcases h with ⟨v, h1, h2⟩ | ⟨h1, h2⟩
  · exact .inl ⟨v, h1, hk _ _ h2⟩
  · exact .inr ⟨h1, h2.mono hk⟩
theorem loud_of_aloud {o : Oper} {ev : Operand → Value} {K : Value → AM → Prop} {v : Value} {m' : AM} (hn : needsNew o.op = true) (h : aloud P o ev (m ++ [none]) m.length = some (v, m')) (hK : K v m') : Loud P o ev m K := by
  intro base R w a Q next hb hm hev hnx
  have hp := hm.pad 1
  obtain ⟨R', v', w', k1, k2, k3, k4⟩ := aloud_ok (n := m.length) hp hb (fun _ => ⟨pad_one, hm.none_ _ (Nat.le_refl _)⟩) hev h
  exact wp_of_does rfl k1 (hnx R' v v' m' w' k2 ⟨k3.le, k3.rep, k3.os, k3.tape, k3.output, k3.size, fun k hk ho => k3.keep k hk fun ho' => ho ho'.pad, fun k ho => (k3.sub k ho).imp id Owned.pad⟩ hK)
theorem loud_of_aloud0 {o : Oper} {ev : Operand → Value} {K : Value → AM → Prop} {v : Value} {m' : AM} (hn : needsNew o.op = false) (h : aloud P o ev m 0 = some (v, m')) (hK : K v m') : Loud P o ev m K := by
  intro base R w a Q next hb hm hev hnx
  obtain ⟨R', v', w', k1, k2, k3, k4⟩ := aloud_ok (n := 0) hm hb (fun x => by rw [hn] at x; cases x) hev h
  exact wp_of_does rfl k1 (hnx R' v v' m' w' k2 k3 hK)
/-! ### one operation, its guard -/
def gval (ops : Array Oper) (t : Fm) (j : Nat) : Option Value := match (ops[j]?).bind (·.dst) with
  | some d => t d
  | none => none
def wantB (v : Value) (b : Bool) : Bool := match v with
  | .bool q => q == b
  | _ => false
def Step (P : Program) (nt : Nat) (ops : Array Oper) (o : Oper) (t : Fm) (m : AM) (K : Fm → AM → Prop) : Prop :=
  (∀ d, o.dst = some d → d < nt) ∧
  match o.guard with
  | none => ∃ ev, Kn t o ev ∧ AOp P o ev m (fun v m' => K (putO t o.dst v) m')
  | some (j, b) => ∃ g, gval ops t j = some g ∧ if wantB g b then ∃ ev, Kn t o ev ∧ AOp P o ev m (fun v m' => K (putO t o.dst v) m') else K (putO t o.dst undef) m
theorem wanted_of {a : Act} (h : FR R n t a.tmps) {o : Oper} {j : Nat} {b : Bool} {g : Value} (hg : o.guard = some (j, b)) (hv : gval ops t j = some g) : Region.wanted o (yielded ops a.tmps) = wantB g b := by
  unfold gval at hv
  unfold Region.wanted yielded
  rw [hg]
  simp only
  cases hd : (ops[j]?).bind (·.dst) with
  | none => rw [hd] at hv; cases hv
  | some d =>
    rw [hd] at hv
    simp only at hv
    have hr := h.rel d g hv
    simp only [Option.bind_some]
    rcases Nat.lt_or_ge d a.tmps.size with hl | hl
    · simp only [Array.getD_eq_getD_getElem?, Array.getElem?_eq_getElem hl, Option.getD_some] at hr
      rw [Array.getElem?_eq_getElem hl]
      generalize a.tmps[d] = y at hr
      cases hr <;> simp [wantB]
    · simp only [Array.getD_eq_getD_getElem?, Array.getElem?_eq_none hl, Option.getD_none] at hr
      rw [Array.getElem?_eq_none hl]
      generalize hy : undef = y at hr
      cases hr <;> first | rfl | cases hy
theorem Step.mono {o : Oper} {K K' : Fm → AM → Prop} (h : Step P nt ops o t m K) (hk : ∀ v m', K (putO t o.dst v) m' → K' (putO t o.dst v) m') : Step P nt ops o t m K' := by
  refine ⟨h.1, ?_⟩
  have h2 := h.2
  split at h2
  · obtain ⟨ev, k1, k2⟩ := h2
    exact ⟨ev, k1, k2.mono fun v m' => hk v m'⟩
  · obtain ⟨g, k1, k2⟩ := h2
    refine ⟨g, k1, ?_⟩
    split
    · rename_i hw
      rw [if_pos hw] at k2
      obtain ⟨ev, q1, q2⟩ := k2
      exact ⟨ev, q1, q2.mono fun v m' => hk v m'⟩
    · rename_i hw
      rw [if_neg hw] at k2
      exact hk _ _ k2
theorem Step.ok {o : Oper} {K : Fm → AM → Prop} (h : Step P nt ops o t m K) {i : Nat} (hi : ops[i]? = some o) {base : Nat} {R : Pl} {w : World} {a : Act} (hb : base ≤ w.heap.size) (hm : MRep base R m w) (ht : FR R nt t a.tmps)
    {next : Act → World → Prop} {Q : Exit → Act → World → Prop} (hn : ∀ R' t' m' a' w', a'.defers = a.defers → FR R' nt t' a'.tmps → Post base m m' R R' w w' → K t' m' → next a' w') : wpOp P ops Q i next a w := by
  unfold wpOp
  simp only [hi]
  have run : ∀ ev, Kn t o ev → AOp P o ev m (fun v m' => K (putO t o.dst v) m') → o.wp P a w next Q := fun ev k1 k2 =>
    k2.loud base R w a Q next hb hm (fun x hx => evo_rel ht (k1 x hx)) fun R' v v' m' w' q1 q2 q3 => hn R' _ m' _ w' (put_defers _ _ _) ((ht.mono q2.le).putO h.1 q1) q2 q3
  have h2 := h.2
  split at h2
  · rename_i hg
    obtain ⟨ev, k1, k2⟩ := h2
    rw [if_pos (by simp [Region.wanted, hg])]
    exact .inl (run ev k1 k2)
  · rename_i j b hg
    obtain ⟨g, k1, k2⟩ := h2
    rw [wanted_of ht hg k1]
    split
    · rename_i hw
      rw [if_pos hw] at k2
      obtain ⟨ev, q1, q2⟩ := k2
      exact .inl (run ev q1 q2)
    · rename_i hw
      rw [if_neg hw] at k2
      exact hn R _ m _ w (put_defers _ _ _) (ht.putO h.1 (.undef R)) (.refl hm) k2
/-! ### regions in a given order -/
def AWi (P : Program) (nt : Nat) (ops : Array Oper) : List Nat → Fm → AM → (Fm → AM → Prop) → Prop
  | [], t, m, Q => Q t m
  | i :: rest, t, m, Q => ∃ o, ops[i]? = some o ∧ Step P nt ops o t m (fun t m => AWi P nt ops rest t m Q)
theorem AWi.nil {Q : Fm → AM → Prop} (h : Q t m) : AWi P nt ops [] t m Q := h
theorem AWi.cons {i : Nat} {rest : List Nat} {o : Oper} {Q : Fm → AM → Prop} (ho : ops[i]? = some o) (h : Step P nt ops o t m (fun t m => AWi P nt ops rest t m Q)) : AWi P nt ops (i :: rest) t m Q := ⟨o, ho, h⟩
theorem AWi.ok {base : Nat} {Q : Fm → AM → Prop} {QQ : Exit → Act → World → Prop} : ∀ (l : List Nat) (t : Fm) (m : AM) (R : Pl) (w : World) (a : Act), AWi P nt ops l t m Q → base ≤ w.heap.size → MRep base R m w → FR R nt t a.tmps →
    (∀ R' t' m' a' w', a'.defers = a.defers → FR R' nt t' a'.tmps → Post base m m' R R' w w' → Q t' m' → QQ .normal a' w') → wpOps P ops QQ l a w
  | [], t, m, R, w, a, h, hb, hm, ht, hQ => by
    simp only [wpOps]
    exact hQ R t m a w rfl ht (.refl hm) h
  | i :: rest, t, m, R, w, a, ⟨o, ho, h⟩, hb, hm, ht, hQ => by
    rw [wpOps_cons]
    refine h.ok ho hb hm ht ?_
    intro R' t' m' a' w' k1 k2 k3 k4
    refine AWi.ok rest t' m' R' w' a' k4 (Nat.le_trans hb k3.size) k3.rep k2 ?_
    intro R2 t2 m2 a2 w2 q1 q2 q3 q4
    exact hQ R2 t2 m2 a2 w2 (q1.trans k1) q2 (k3.trans q3) q4
/-! ### regions that draw: all orders -/
def AWd (P : Program) (nt : Nat) (ops : Array Oper) (Q : Fm → AM → Prop) : Nat → Array Bool → Fm → AM → Prop
  | 0, listed, t, m => Region.ready .any ops listed = [] ∧ Q t m
  | f + 1, listed, t, m => (Region.ready .any ops listed = [] → Q t m) ∧ ∀ i ∈ Region.ready .any ops listed, ∀ o, ops[i]? = some o → Step P nt ops o t m (fun t m => AWd P nt ops Q f (listed.setIfInBounds i true) t m)
theorem AWd.ok {base : Nat} {Q : Fm → AM → Prop} {QQ : Exit → Act → World → Prop} : ∀ (f : Nat) (listed : Array Bool) (t : Fm) (m : AM) (R : Pl) (w : World) (a : Act), AWd P nt ops Q f listed t m → base ≤ w.heap.size → MRep base R m w → FR R nt t a.tmps →
    (∀ R' t' m' a' w', a'.defers = a.defers → FR R' nt t' a'.tmps → Post base m m' R R' w w' → Q t' m' → QQ .normal a' w') → wpAny P .any ops QQ f listed a w
  | 0, listed, t, m, R, w, a, h, hb, hm, ht, hQ => ⟨h.1, hQ R t m a w rfl ht (.refl hm) h.2⟩
  | f + 1, listed, t, m, R, w, a, h, hb, hm, ht, hQ => by
    refine ⟨fun h0 => hQ R t m a w rfl ht (.refl hm) (h.1 h0), fun i hi => ?_⟩
    obtain ⟨_, o, ho, _⟩ := mem_ready.1 hi
    refine (h.2 i hi o ho).ok ho hb hm ht ?_
    intro R' t' m' a' w' k1 k2 k3 k4
    refine AWd.ok f _ t' m' R' w' a' k4 (Nat.le_trans hb k3.size) k3.rep k2 ?_
    intro R2 t2 m2 a2 w2 q1 q2 q3 q4
    exact hQ R2 t2 m2 a2 w2 (q1.trans k1) q2 (k3.trans q3) q4
end
end Go.Proofs.Ytmomjannlnafcaa.Abs
