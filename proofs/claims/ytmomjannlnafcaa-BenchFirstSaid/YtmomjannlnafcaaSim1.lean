/- An abstract memory for runs that make all their memory themselves: values up to a placing of blocks. -/
import Derived.Below
import Derived.Laws.OwnMore
import Derived.Laws.Tables
import Derived.Laws.CopyRow
import Derived.Laws.IdiomCopy
import Derived.Deep.AppendSrc
import Derived.Deep.LoopGhost
import Derived.Deep.Quiet
import Derived.Great.BuildSlice
import Derived.WalkKit
namespace Go.Proofs.Ytmomjannlnafcaa.Sim
set_option linter.unusedSimpArgs false
set_option linter.unusedVariables false
open Go.RowKit
/-- Where an abstract block lies: its first cell, and how many elements more than the abstract capacity a slice into it can hold. -/
structure Place where
  block : Nat
  off : Nat
  extra : Nat
abbrev Pl := Nat → Option Place
def Pl.le (R R' : Pl) : Prop := ∀ i p, R i = some p → R' i = some p
theorem Pl.le.refl (R : Pl) : R.le R := fun _ _ h => h
theorem Pl.le.trans {R R' R'' : Pl} (h : R.le R') (k : R'.le R'') : R.le R'' := fun i p e => k i p (h i p e)
def Pl.put (R : Pl) (i : Nat) (p : Place) : Pl := fun j => if j = i then some p else R j
theorem Pl.put_same (R : Pl) (i : Nat) (p : Place) : R.put i p i = some p := by simp [Pl.put]
theorem Pl.put_other (R : Pl) {i j : Nat} (p : Place) (h : j ≠ i) : R.put i p j = R j := by simp [Pl.put, h]
theorem Pl.le_put (R : Pl) (i : Nat) (p : Place) (h : R i = none) : R.le (R.put i p) := fun j q e => by
  by_cases hj : j = i
  · subst hj; rw [h] at e; cases e
  · rw [Pl.put_other R p hj]; exact e
/-- The value v' is the value v under the placing. -/
inductive Rel (R : Pl) : Value → Value → Prop
  | bool (b : Bool) : Rel R (.bool b) (.bool b)
  | int (k : IntKind) (n : Int) : Rel R (.int k n) (.int k n)
  | float (k : FloatKind) (n : Nat) : Rel R (.float k n) (.float k n)
  | complex (k : FloatKind) (n m : Nat) : Rel R (.complex k n m) (.complex k n m)
  | string (s : ByteArray) : Rel R (.string s) (.string s)
  | ptrNil : Rel R (.pointer none) (.pointer none)
  | ptr (i o : Nat) (p : Place) (h : R i = some p) : Rel R (.pointer (some ⟨i, o, none⟩)) (.pointer (some ⟨p.block, p.off + o, none⟩))
  | sliceNil : Rel R (.slice none 0 0) (.slice none 0 0)
  | slice (i o n c : Nat) (p : Place) (h : R i = some p) (hn : n ≤ c) : Rel R (.slice (some ⟨i, o, none⟩) n c) (.slice (some ⟨p.block, p.off + o, none⟩) n (c + p.extra))
  | mapNil : Rel R (.map none) (.map none)
  | nilFunc : Rel R .nilFunc .nilFunc
  | nilIface : Rel R .nilIface .nilIface
  | func (fn : Fn) (f c f' c' : Array Value) (h1 : f.size = f'.size) (h2 : ∀ i, i < f.size → Rel R (f.getD i undef) (f'.getD i undef))
      (h3 : c.size = c'.size) (h4 : ∀ i, i < c.size → Rel R (c.getD i undef) (c'.getD i undef)) : Rel R (.func fn f c) (.func fn f' c')
  | agg (c c' : Array Value) (h1 : c.size = c'.size) (h2 : ∀ i, i < c.size → Rel R (c.getD i undef) (c'.getD i undef)) : Rel R (.agg c) (.agg c')
  | tuple (c c' : Array Value) (h1 : c.size = c'.size) (h2 : ∀ i, i < c.size → Rel R (c.getD i undef) (c'.getD i undef)) : Rel R (.tuple c) (.tuple c')
def Rels (R : Pl) (c c' : Array Value) : Prop := c.size = c'.size ∧ ∀ i, i < c.size → Rel R (c.getD i undef) (c'.getD i undef)
theorem ext_getD {c d : Array Value} (h : c.size = d.size) (hi : ∀ i, i < c.size → c.getD i undef = d.getD i undef) : c = d := by
  apply Array.ext h
  intro i h1 h2
  have := hi i h1
  simpa [h1, h2] using this
theorem Rel.mono {R R' : Pl} {v v' : Value} (h : Rel R v v') (hR : R.le R') : Rel R' v v' := by
  induction h with
  | bool b => exact .bool b
  | int k n => exact .int k n
  | float k n => exact .float k n
  | complex k n m => exact .complex k n m
  | string s => exact .string s
  | ptrNil => exact .ptrNil
  | ptr i o p h => exact .ptr i o p (hR _ _ h)
  | sliceNil => exact .sliceNil
  | slice i o n c p h hn => exact .slice i o n c p (hR _ _ h) hn
  | mapNil => exact .mapNil
  | nilFunc => exact .nilFunc
  | nilIface => exact .nilIface
  | func fn f c f' c' h1 _ h3 _ i1 i2 => exact .func fn f c f' c' h1 i1 h3 i2
  | agg c c' h1 _ i1 => exact .agg c c' h1 i1
  | tuple c c' h1 _ i1 => exact .tuple c c' h1 i1
theorem Rels.mono {R R' : Pl} {c c' : Array Value} (h : Rels R c c') (hR : R.le R') : Rels R' c c' := ⟨h.1, fun i hi => (h.2 i hi).mono hR⟩
theorem Rel.fn {R : Pl} {v v1 : Value} (h : Rel R v v1) : ∀ v2, Rel R v v2 → v1 = v2 := by
  induction h with
  | ptr i o p h => intro v2 h2; cases h2 with | ptr _ _ q hq => rw [h] at hq; injection hq with hq; subst hq; rfl
  | slice i o n c p h hn => intro v2 h2; cases h2 with | slice _ _ _ _ q hq => rw [h] at hq; injection hq with hq; subst hq; rfl
  | func fn f c f' c' h1 _ h3 _ i1 i2 =>
    intro v2 h2
    cases h2 with
    | func _ _ _ f2 c2 k1 k2 k3 k4 =>
      rw [ext_getD (h1.symm.trans k1) (fun i hi => i1 i (by omega) _ (k2 i (by omega))), ext_getD (h3.symm.trans k3) (fun i hi => i2 i (by omega) _ (k4 i (by omega)))]
  | agg c c' h1 _ i1 =>
    intro v2 h2
    cases h2 with
    | agg _ c2 k1 k2 => rw [ext_getD (h1.symm.trans k1) (fun i hi => i1 i (by omega) _ (k2 i (by omega)))]
  | tuple c c' h1 _ i1 =>
    intro v2 h2
    cases h2 with
    | tuple _ c2 k1 k2 => rw [ext_getD (h1.symm.trans k1) (fun i hi => i1 i (by omega) _ (k2 i (by omega)))]
  | _ => intro v2 h2; cases h2; rfl
theorem Rel.undef (R : Pl) : Rel R undef undef := .tuple #[] #[] rfl (fun i hi => absurd hi (by simp))
theorem Rels.get {R : Pl} {c c' : Array Value} (h : Rels R c c') (i : Nat) : Rel R (c.getD i Go.undef) (c'.getD i Go.undef) := by
  by_cases hi : i < c.size
  · exact h.2 i hi
  · have h1 := h.1
    have e1 : c.getD i Go.undef = Go.undef := by simp [Array.getElem?_eq_none (by omega : c.size ≤ i)]
    have e2 : c'.getD i Go.undef = Go.undef := by simp [Array.getElem?_eq_none (by omega : c'.size ≤ i)]
    rw [e1, e2]; exact Rel.undef R
theorem Rels.set {R : Pl} {c c' : Array Value} (h : Rels R c c') (i : Nat) {v v' : Value} (hv : Rel R v v') : Rels R (c.setIfInBounds i v) (c'.setIfInBounds i v') := by
  refine ⟨by simpa using h.1, fun j hj => ?_⟩
  have h1 := h.1
  simp only [Array.size_setIfInBounds] at hj
  have := h.2 j hj
  by_cases hij : i = j
  · subst hij
    simp [hj, show i < c'.size by omega, hv]
  · simp only [Array.getD_eq_getD_getElem?, Array.getElem?_setIfInBounds_ne hij] at this ⊢
    exact this
/-! ### Values without addresses -/
def g0 : Value → Bool
  | .bool _ | .int .. | .float .. | .complex .. | .string _ | .pointer none | .slice none 0 0 | .map none | .nilFunc | .nilIface => true
  | .func _ f c => f.isEmpty && c.isEmpty
  | _ => false
def g1 : Value → Bool
  | .agg cs => cs.all g0
  | .tuple vs => vs.all fun v => match v with | .agg cs => cs.all g0 | v => g0 v
  | v => g0 v
theorem g0_rel {R : Pl} {v : Value} (h : g0 v = true) : Rel R v v := by
  unfold g0 at h
  split at h
  · exact .bool _
  · exact .int _ _
  · exact .float _ _
  · exact .complex _ _ _
  · exact .string _
  · exact .ptrNil
  · exact .sliceNil
  · exact .mapNil
  · exact .nilFunc
  · exact .nilIface
  · simp at h
    obtain ⟨h1, h2⟩ := h
    subst h1; subst h2
    exact .func _ _ _ _ _ rfl (fun i hi => absurd hi (by simp)) rfl (fun i hi => absurd hi (by simp))
  · cases h
theorem all_getD {c : Array Value} {p : Value → Bool} (h : c.all p = true) {i : Nat} (hi : i < c.size) : p (c.getD i undef) = true := by
  have := (Array.all_eq_true.1 h) i hi
  simpa [hi] using this
theorem g1_rel {R : Pl} {v : Value} (h : g1 v = true) : Rel R v v := by
  unfold g1 at h
  split at h
  · exact .agg _ _ rfl fun i hi => g0_rel (all_getD h hi)
  · refine .tuple _ _ rfl fun i hi => ?_
    have := all_getD h hi
    split at this
    · rename_i cs e; rw [e]; exact .agg _ _ rfl fun i hi => g0_rel (all_getD this hi)
    · exact g0_rel this
  · exact g0_rel h
theorem g1_eq {R : Pl} {v v' : Value} (h : g1 v = true) (hv : Rel R v v') : v' = v := hv.fn v (g1_rel h)
/-! ### Memory -/
inductive Kind | own | grow | ro | edge
  deriving DecidableEq
def Kind.solid : Kind → Bool
  | .own | .grow => true
  | _ => false
structure Blk where
  cells : List Value
  kind : Kind := .own
  /-- cells of an element: for rows that may grow -/
  size : Nat := 1
abbrev AM := List (Option Blk)
/-- A block of abstract memory, as it lies in the world. -/
def BRep (base : Nat) (R : Pl) (b : Blk) (p : Place) (w : World) : Prop :=
  p.block < w.heap.size ∧
  match b.kind with
  | .ro => (b.size = 0 → p.extra = 0) ∧ ∀ j v, b.cells[j]? = some v → ∃ v', w.cell? ⟨p.block, p.off + j, none⟩ = some v' ∧ Rel R v v'
  | .edge => b.cells = [] ∧ p.extra = 0
  | k => ∃ cur ty, w.heap[p.block]? = some (.cells cur ty (0, 0)) ∧ base ≤ p.block ∧ p.off + b.cells.length + p.extra * b.size ≤ cur.size ∧ (k = .own → p.extra = 0) ∧
      ∀ j v, b.cells[j]? = some v → ∃ v', cur[p.off + j]? = some v' ∧ Rel R v v' ∧ v'.oneCell' = true
structure MRep (base : Nat) (R : Pl) (m : AM) (w : World) : Prop where
  none_ : ∀ i, m.length ≤ i → R i = none
  rep : ∀ (i : Nat) (b : Blk), m[i]? = some (some b) → ∃ p, R i = some p ∧ BRep base R b p w
  apart : ∀ (i j : Nat) (b c : Blk) (p q : Place), m[i]? = some (some b) → m[j]? = some (some c) → b.kind.solid = true → c.kind ≠ .edge → i ≠ j → R i = some p → R j = some q → p.block ≠ q.block
/-- The blocks that one may write. -/
def Owned (m : AM) (R : Pl) (k : Nat) : Prop := ∃ (i : Nat) (b : Blk) (p : Place), m[i]? = some (some b) ∧ b.kind.solid = true ∧ R i = some p ∧ p.block = k
theorem MRep.nil (base : Nat) (w : World) : MRep base (fun _ => none) [] w := ⟨fun _ _ => rfl, fun i b h => by simp at h, fun i j b c p q h => by simp at h⟩
theorem BRep.mono {base : Nat} {R R' : Pl} {b : Blk} {p : Place} {w : World} (h : BRep base R b p w) (hR : R.le R') : BRep base R' b p w := by
  unfold BRep at *
  obtain ⟨h0, h⟩ := h
  refine ⟨h0, ?_⟩
  split at h
  · exact ⟨h.1, fun j v hj => by obtain ⟨v', h1, h2⟩ := h.2 j v hj; exact ⟨v', h1, h2.mono hR⟩⟩
  · exact h
  · obtain ⟨cur, ty, h1, h2, h3, h4, h5⟩ := h
    exact ⟨cur, ty, h1, h2, h3, h4, fun j v hj => by obtain ⟨v', k1, k2, k3⟩ := h5 j v hj; exact ⟨v', k1, k2.mono hR, k3⟩⟩
/-- Nothing that the block lies in has turned. -/
theorem BRep.kept {base : Nat} {R : Pl} {b : Blk} {p : Place} {w w' : World} (h : BRep base R b p w) (hk : w'.heap[p.block]? = w.heap[p.block]?) : BRep base R b p w' := by
  unfold BRep at *
  obtain ⟨h0, h⟩ := h
  refine ⟨?_, ?_⟩
  · rw [Array.getElem?_eq_getElem h0] at hk
    exact (Array.getElem?_eq_some_iff.1 hk).1
  split at h
  · exact ⟨h.1, fun j v hj => by obtain ⟨v', h1, h2⟩ := h.2 j v hj; exact ⟨v', (World.cell?_of_block (w := w) (by exact hk)).trans h1, h2⟩⟩
  · exact h
  · obtain ⟨cur, ty, h1, h2⟩ := h
    exact ⟨cur, ty, hk.trans h1, h2⟩
theorem BRep.lt {base : Nat} {R : Pl} {b : Blk} {p : Place} {w : World} (h : BRep base R b p w) : p.block < w.heap.size := h.1
theorem BRep.base {base : Nat} {R : Pl} {b : Blk} {p : Place} {w : World} (h : BRep base R b p w) (hb : b.kind.solid = true) : base ≤ p.block := by
  unfold BRep at h
  obtain ⟨_, h⟩ := h
  split at h
  · rename_i e; rw [e] at hb; cases hb
  · rename_i e; rw [e] at hb; cases hb
  · exact h.elim fun _ h => h.elim fun _ h => h.2.1
/-- What a step leaves. -/
structure Post (base : Nat) (m m' : AM) (R R' : Pl) (w w' : World) : Prop where
  le : R.le R'
  rep : MRep base R' m' w'
  os : w'.os = w.os
  tape : w'.tape = w.tape
  output : w'.output = w.output
  size : w.heap.size ≤ w'.heap.size
  keep : ∀ k, k < w.heap.size → ¬ Owned m R k → w'.heap[k]? = w.heap[k]?
  sub : ∀ k, Owned m' R' k → w.heap.size ≤ k ∨ Owned m R k
theorem Post.refl {base : Nat} {m : AM} {R : Pl} {w : World} (h : MRep base R m w) : Post base m m R R w w := ⟨.refl R, h, rfl, rfl, rfl, Nat.le_refl _, fun _ _ _ => rfl, fun _ h => .inr h⟩
theorem Post.trans {base : Nat} {m m' m'' : AM} {R R' R'' : Pl} {w w' w'' : World} (h : Post base m m' R R' w w') (k : Post base m' m'' R' R'' w' w'') : Post base m m'' R R'' w w'' := by
  refine ⟨h.le.trans k.le, k.rep, k.os.trans h.os, k.tape.trans h.tape, k.output.trans h.output, Nat.le_trans h.size k.size, fun i hi ho => ?_, fun i hi => ?_⟩
  · refine (k.keep i (Nat.lt_of_lt_of_le hi h.size) fun ho' => ?_).trans (h.keep i hi ho)
    rcases h.sub i ho' with h1 | h1
    · omega
    · exact ho h1
  · rcases k.sub i hi with h1 | h1
    · exact .inl (Nat.le_trans h.size h1)
    · exact h.sub i h1
theorem Owned.base {base : Nat} {m : AM} {R : Pl} {w : World} (h : MRep base R m w) {k : Nat} (ho : Owned m R k) : base ≤ k := by
  obtain ⟨i, b, p, h1, h2, h3, rfl⟩ := ho
  obtain ⟨q, k1, k2⟩ := h.rep i b h1
  rw [h3] at k1; injection k1 with k1; subst k1
  exact k2.base h2
theorem Post.below {base : Nat} {m m' : AM} {R R' : Pl} {w w' : World} (h : Post base m m' R R' w w') (hm : MRep base R m w) (hb : base ≤ w.heap.size) : Below base w w' :=
  ⟨h.os, h.tape, h.output, h.size, fun k hk => h.keep k (by omega) fun ho => by have := ho.base hm; omega⟩
section
variable {base : Nat} {R : Pl} {m : AM} {w w' : World}
/-- More memory, a draw: whatever keeps all blocks. -/
theorem MRep.kept (h : MRep base R m w) (hk : ∀ k, k < w.heap.size → w'.heap[k]? = w.heap[k]?) : MRep base R m w' :=
  ⟨h.none_, fun i b hi => by
    obtain ⟨p, h1, h2⟩ := h.rep i b hi
    exact ⟨p, h1, h2.kept (hk _ h2.lt)⟩, h.apart⟩
theorem Post.drew (h : MRep base R m w) : Post base m m R R w w.drew := ⟨.refl R, h.kept fun _ _ => rfl, rfl, rfl, rfl, Nat.le_refl _, fun _ _ _ => rfl, fun _ h => .inr h⟩
/-- A new block, at a free place of the memory's list. -/
theorem MRep.put (h : MRep base R m w) (n : Nat) (hn : n < m.length) (hfree : m[n]? = some none) (hR : R n = none) (c : Blk) (p : Place) (hk : ∀ k, k < w.heap.size → w'.heap[k]? = w.heap[k]?)
    (hp : p.block = w.heap.size) (hc : BRep base R c p w') : R.le (R.put n p) ∧ MRep base (R.put n p) (m.set n (some c)) w' := by
  have hle := Pl.le_put R n p hR
  have old : ∀ (i : Nat) (b : Blk), (m.set n (some c))[i]? = some (some b) → i ≠ n → m[i]? = some (some b) := by
    intro i b hi hne
    rwa [List.getElem?_set_ne (fun e => hne e.symm)] at hi
  have hnew : ∀ (b : Blk), (m.set n (some c))[n]? = some (some b) → b = c := by
    intro b hi
    rw [List.getElem?_set_self hn] at hi
    injection hi with hi; injection hi with hi; exact hi.symm
  refine ⟨hle, ⟨fun i hi => ?_, fun i b hi => ?_, fun i j b c' q q' hi hj hbo hco hij hq hq' => ?_⟩⟩
  · simp at hi
    rw [Pl.put_other _ _ (by omega)]
    exact h.none_ i hi
  · by_cases hne : i = n
    · subst hne
      have := hnew b hi
      subst this
      exact ⟨p, Pl.put_same _ _ _, hc.mono hle⟩
    · obtain ⟨q, h1, h2⟩ := h.rep i b (old i b hi hne)
      exact ⟨q, hle _ _ h1, (h2.kept (hk _ h2.lt)).mono hle⟩
  · by_cases h1 : i = n
    · subst h1
      have h2 : j ≠ i := fun e => hij e.symm
      rw [Pl.put_same] at hq
      injection hq with hq
      subst hq
      rw [Pl.put_other _ _ h2] at hq'
      obtain ⟨q2, k1, k2⟩ := h.rep j c' (old j c' hj h2)
      rw [hq'] at k1; injection k1 with k1; subst k1
      have := k2.lt
      omega
    · by_cases h2 : j = n
      · subst h2
        rw [Pl.put_same] at hq'
        injection hq' with hq'
        subst hq'
        rw [Pl.put_other _ _ h1] at hq
        obtain ⟨q2, k1, k2⟩ := h.rep i b (old i b hi h1)
        rw [hq] at k1; injection k1 with k1; subst k1
        have := k2.lt
        omega
      · rw [Pl.put_other _ _ h1] at hq
        rw [Pl.put_other _ _ h2] at hq'
        exact h.apart i j b c' q q' (old i b hi h1) (old j c' hj h2) hbo hco hij hq hq'
/-- Room for more blocks. -/
theorem MRep.pad (h : MRep base R m w) (n : Nat) : MRep base R (m ++ List.replicate n none) w := by
  have old : ∀ (i : Nat) (b : Blk), (m ++ List.replicate n none)[i]? = some (some b) → m[i]? = some (some b) := by
    intro i b hi
    by_cases hl : i < m.length
    · rwa [List.getElem?_append_left hl] at hi
    · rw [List.getElem?_append_right (by omega), List.getElem?_replicate] at hi
      split at hi <;> cases hi
  exact ⟨fun i hi => h.none_ i (by simp at hi; omega), fun i b hi => h.rep i b (old i b hi), fun i j b c p q hi hj => h.apart i j b c p q (old i b hi) (old j c hj)⟩
theorem Owned.pad {n k : Nat} (h : Owned (m ++ List.replicate n none) R k) : Owned m R k := by
  obtain ⟨i, b, p, h1, h2⟩ := h
  refine ⟨i, b, p, ?_, h2⟩
  by_cases hl : i < m.length
  · rwa [List.getElem?_append_left hl] at h1
  · rw [List.getElem?_append_right (by omega), List.getElem?_replicate] at h1
    split at h1 <;> cases h1
/-- A block is forgotten. -/
theorem MRep.drop (h : MRep base R m w) (i : Nat) : MRep base R (m.set i none) w := by
  have old : ∀ (j : Nat) (b : Blk), (m.set i none)[j]? = some (some b) → m[j]? = some (some b) := by
    intro j b hj
    by_cases e : i = j
    · subst e
      rw [List.getElem?_set] at hj
      split at hj
      · split at hj <;> cases hj
      · exact hj
    · rwa [List.getElem?_set_ne e] at hj
  exact ⟨fun j hj => h.none_ j (by simpa using hj), fun j b hj => h.rep j b (old j b hj), fun j k b c p q hj hk => h.apart j k b c p q (old j b hj) (old k c hk)⟩
/-- What the world holds in a block of one's own turns into other values; all other blocks are kept. -/
theorem MRep.turn (h : MRep base R m w) {i : Nat} {b : Blk} (hi : m[i]? = some (some b)) (hk : b.kind.solid = true) {p : Place} (hp : R i = some p) (c : Blk) (hck : c.kind.solid = true)
    (hc : BRep base R c p w') (hw : ∀ k, k ≠ p.block → w'.heap[k]? = w.heap[k]?) (hsz : w'.heap.size = w.heap.size) : MRep base R (m.set i (some c)) w' := by
  have hl : i < m.length := (List.getElem?_eq_some_iff.1 hi).1
  have old : ∀ (j : Nat) (d : Blk), (m.set i (some c))[j]? = some (some d) → j ≠ i → m[j]? = some (some d) := by
    intro j d hj hne
    rwa [List.getElem?_set_ne (fun e => hne e.symm)] at hj
  have hnew : ∀ (d : Blk), (m.set i (some c))[i]? = some (some d) → d = c := by
    intro d hj
    rw [List.getElem?_set_self hl] at hj
    injection hj with hj; injection hj with hj; exact hj.symm
  refine ⟨fun j hj => h.none_ j (by simpa using hj), fun j d hj => ?_, fun j k d e q q' hj hk' hdo heo hjk hq hq' => ?_⟩
  · by_cases hne : j = i
    · subst hne
      have := hnew d hj
      subst this
      exact ⟨p, hp, hc⟩
    · obtain ⟨q, h1, h2⟩ := h.rep j d (old j d hj hne)
      refine ⟨q, h1, ?_⟩
      by_cases hr : d.kind = .edge
      · obtain ⟨z1, z2⟩ := h2
        refine ⟨by rw [hsz]; exact z1, ?_⟩
        rw [hr] at z2 ⊢
        exact z2
      · exact h2.kept (hw _ (fun e => h.apart i j b d p q hi (old j d hj hne) hk hr (fun x => hne x.symm) hp h1 e.symm))
  · by_cases h1 : j = i
    · subst h1
      exact h.apart j k b e q q' hi (old k e hk' (fun x => hjk x.symm)) hk heo hjk hq hq'
    · by_cases h2 : k = i
      · subst h2
        exact h.apart j k d b q q' (old j d hj h1) hi hdo (by intro e; rw [e] at hk; cases hk) hjk hq hq'
      · exact h.apart j k d e q q' (old j d hj h1) (old k e hk' h2) hdo heo hjk hq hq'
end
end Go.Proofs.Ytmomjannlnafcaa.Sim
