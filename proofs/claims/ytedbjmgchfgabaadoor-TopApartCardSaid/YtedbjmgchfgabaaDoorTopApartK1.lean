/- Proved here: what the proof of TopApart rests on, part 1 of 4. Conditions: those that each theorem names. -/
import Derived.Below
import Derived.Laws.OwnMore
import Derived.Laws.Tables
import Derived.Laws.CopyRow
import Derived.Laws.IdiomCopy
import Derived.Deep.AppendSrc
import Derived.Deep.LoopGhost
import Derived.Deep.Quiet
import Derived.Great.BuildSlice
import Derived.WalkKit
import Derived.Room.Entries
import Derived.MapKept
import Derived.OrdersHeld
import Derived.IntWalk
import Derived.Scope
import Derived.Deep.Slices
import Derived.Deep.Fields
import Derived.ChangeSame
import Derived.ProofKit
import Derived.OpenShut
import Derived.Lib.AppendZeros
import Derived.Test.YtedbjmgchfgabaaDoorProg
import Derived.Shelf.Strings.SlTrimAscii
import Derived.Ground.NamesProg
import Derived.Deep.Strs
import Derived.Laws.IdiomStrings
import Derived.Lib.FrozenHead
import Derived.Maps.RangeRun
namespace Go.Proofs.YtedbjmgchfgabaaDoor
theorem zq1 {p : Prop} [Decidable p] : (decide p = true) = p := decide_eq_true_eq
theorem zq2 {p : Prop} {_ : Decidable p} : decide p = false ↔ ¬p := decide_eq_false_iff_not
theorem zq3 (b : Bool) : ((!b) = true) = (b = false) := Bool.not_eq_true' b
theorem zq4 (b : Bool) : ((!b) = false) = (b = true) := Bool.not_eq_false' b
theorem zq5 : (!true) = false := Bool.not_true
theorem zq6 : (!false) = true := Bool.not_false
theorem zq7 {α : Type} (l : List α) : [] ++ l = l := List.nil_append l
theorem zq8 {α : Type} {a : α} {s t : List α} : a :: s ++ t = a :: (s ++ t) := List.cons_append
theorem zq9 {α : Type} {x a : α} {l : List α} : (x :: l).set 0 a = a :: l := List.set_cons_zero
theorem zq0 {α : Type} {x a : α} {l : List α} {n : Nat} : (x :: l).set (n + 1) a = x :: l.set n a := List.set_cons_succ
end Go.Proofs.YtedbjmgchfgabaaDoor
namespace Go.Proofs.YtedbjmgchfgabaaDoor.Sim
set_option linter.unusedSimpArgs false
set_option linter.unusedVariables false
open Go.RowKit
structure Place where
 block : Nat
 off : Nat
 extra : Nat
abbrev Pl := Nat → Option Place
def Pl.le (R R' : Pl) : Prop := ∀ i p, R i = some p → R' i = some p
theorem Pl.le.refl (R : Pl) : R.le R := fun _ _ h => h
theorem Pl.le.trans {R R' R'' : Pl} (h : R.le R') (k : R'.le R'') : R.le R'' := fun i p e => k i p (h i p e)
def Pl.put (R : Pl) (i : Nat) (p : Place) : Pl := fun j => if j = i then some p else R j
theorem Pl.put_same (R : Pl) (i : Nat) (p : Place) : R.put i p i = some p := by simp [Pl.put]
theorem Pl.put_other (R : Pl) {i j : Nat} (p : Place) (h : j ≠ i) : R.put i p j = R j := by simp [Pl.put, h]
theorem Pl.le_put (R : Pl) (i : Nat) (p : Place) (h : R i = none) : R.le (R.put i p) := fun j q e => by
 by_cases hj : j = i
 ·subst hj; rw [h] at e; cases e
 ·rw [Pl.put_other R p hj]; exact e
inductive Rel (R : Pl) : Value → Value → Prop
 | bool (b : Bool) : Rel R (.bool b) (.bool b)
 | int (k : IntKind) (n : Int) : Rel R (.int k n) (.int k n)
 | float (k : FloatKind) (n : Nat) : Rel R (.float k n) (.float k n)
 | complex (k : FloatKind) (n m : Nat) : Rel R (.complex k n m) (.complex k n m)
 | string (s : ByteArray) : Rel R (.string s) (.string s)
 | ptrNil : Rel R (.pointer none) (.pointer none)
 | ptr (i o : Nat) (p : Place) (h : R i = some p) : Rel R (.pointer (some ⟨i, o, none⟩)) (.pointer (some ⟨p.block, p.off + o, none⟩))
 | sliceNil : Rel R (.slice none 0 0) (.slice none 0 0)
 | slice (i o n c : Nat) (p : Place) (h : R i = some p) (hn : n ≤ c) : Rel R (.slice (some ⟨i, o, none⟩) n c) (.slice (some ⟨p.block, p.off + o, none⟩) n (c + p.extra))
 | sliceSpot (i o k : Nat) (p : Place) (h : R i = some p) : Rel R (.slice (some ⟨i, o, some k⟩) 0 0) (.slice (some ⟨p.block, p.off + o, some k⟩) 0 0)
 | mapNil : Rel R (.map none) (.map none)
 | mapAt (i : Nat) (p : Place) (h : R i = some p) : Rel R (.map (some i)) (.map (some p.block))
 | nilFunc : Rel R .nilFunc .nilFunc
 | nilIface : Rel R .nilIface .nilIface
 | func (fn : Fn) (f c f' c' : Array Value) (h1 : f.size = f'.size) (h2 : ∀ i, i < f.size → Rel R (f.getD i undef) (f'.getD i undef))
   (h3 : c.size = c'.size) (h4 : ∀ i, i < c.size → Rel R (c.getD i undef) (c'.getD i undef)) : Rel R (.func fn f c) (.func fn f' c')
 | agg (c c' : Array Value) (h1 : c.size = c'.size) (h2 : ∀ i, i < c.size → Rel R (c.getD i undef) (c'.getD i undef)) : Rel R (.agg c) (.agg c')
 | tuple (c c' : Array Value) (h1 : c.size = c'.size) (h2 : ∀ i, i < c.size → Rel R (c.getD i undef) (c'.getD i undef)) : Rel R (.tuple c) (.tuple c')
def Rels (R : Pl) (c c' : Array Value) : Prop := c.size = c'.size ∧ ∀ i, i < c.size → Rel R (c.getD i undef) (c'.getD i undef)
theorem ext_getD {c d : Array Value} (h : c.size = d.size) (hi : ∀ i, i < c.size → c.getD i undef = d.getD i undef) : c = d := by
 apply Array.ext h
 intro i h1 h2
 have := hi i h1
 simpa [h1, h2] using this
theorem Rel.mono {R R' : Pl} {v v' : Value} (h : Rel R v v') (hR : R.le R') : Rel R' v v' := by
 induction h with
 | bool b => exact .bool b
 | int k n => exact .int k n
 | float k n => exact .float k n
 | complex k n m => exact .complex k n m
 | string s => exact .string s
 | ptrNil => exact .ptrNil
 | ptr i o p h => exact .ptr i o p (hR _ _ h)
 | sliceNil => exact .sliceNil
 | slice i o n c p h hn => exact .slice i o n c p (hR _ _ h) hn
 | sliceSpot i o k p h => exact .sliceSpot i o k p (hR _ _ h)
 | mapNil => exact .mapNil
 | mapAt i p h => exact .mapAt i p (hR _ _ h)
 | nilFunc => exact .nilFunc
 | nilIface => exact .nilIface
 | func fn f c f' c' h1 _ h3 _ i1 i2 => exact .func fn f c f' c' h1 i1 h3 i2
 | agg c c' h1 _ i1 => exact .agg c c' h1 i1
 | tuple c c' h1 _ i1 => exact .tuple c c' h1 i1
theorem Rels.mono {R R' : Pl} {c c' : Array Value} (h : Rels R c c') (hR : R.le R') : Rels R' c c' := ⟨h.1, fun i hi => (h.2 i hi).mono hR⟩
theorem Rel.fn {R : Pl} {v v1 : Value} (h : Rel R v v1) : ∀ v2, Rel R v v2 → v1 = v2 := by
 induction h with
 | ptr i o p h => intro v2 h2; cases h2 with | ptr _ _ q hq => rw [h] at hq; injection hq with hq; subst hq; rfl
 | slice i o n c p h hn => intro v2 h2; cases h2 with | slice _ _ _ _ q hq => rw [h] at hq; injection hq with hq; subst hq; rfl
 | sliceSpot i o k p h => intro v2 h2; cases h2 with | sliceSpot _ _ _ q hq => rw [h] at hq; injection hq with hq; subst hq; rfl
 | mapAt i p h => intro v2 h2; cases h2 with | mapAt _ q hq => rw [h] at hq; injection hq with hq; subst hq; rfl
 | func fn f c f' c' h1 _ h3 _ i1 i2 =>
  intro v2 h2
  cases h2 with
  | func _ _ _ f2 c2 k1 k2 k3 k4 =>
   rw [ext_getD (h1.symm.trans k1) (fun i hi => i1 i (by omega) _ (k2 i (by omega))), ext_getD (h3.symm.trans k3) (fun i hi => i2 i (by omega) _ (k4 i (by omega)))]
 | agg c c' h1 _ i1 =>
  intro v2 h2
  cases h2 with
  | agg _ c2 k1 k2 => rw [ext_getD (h1.symm.trans k1) (fun i hi => i1 i (by omega) _ (k2 i (by omega)))]
 | tuple c c' h1 _ i1 =>
  intro v2 h2
  cases h2 with
  | tuple _ c2 k1 k2 => rw [ext_getD (h1.symm.trans k1) (fun i hi => i1 i (by omega) _ (k2 i (by omega)))]
 | _ => intro v2 h2; cases h2; rfl
theorem Rel.undef (R : Pl) : Rel R undef undef := .tuple #[] #[] rfl (fun i hi => absurd hi (by simp))
theorem Rels.get {R : Pl} {c c' : Array Value} (h : Rels R c c') (i : Nat) : Rel R (c.getD i Go.undef) (c'.getD i Go.undef) := by
 by_cases hi : i < c.size
 ·exact h.2 i hi
 ·have h1 := h.1
  have e1 : c.getD i Go.undef = Go.undef := by simp [Array.getElem?_eq_none (by omega : c.size ≤ i)]
  have e2 : c'.getD i Go.undef = Go.undef := by simp [Array.getElem?_eq_none (by omega : c'.size ≤ i)]
  rw [e1, e2]; exact Rel.undef R
theorem Rels.set {R : Pl} {c c' : Array Value} (h : Rels R c c') (i : Nat) {v v' : Value} (hv : Rel R v v') : Rels R (c.setIfInBounds i v) (c'.setIfInBounds i v') := by
 refine ⟨by simpa using h.1, fun j hj => ?_⟩
 have h1 := h.1
 simp only [Array.size_setIfInBounds] at hj
 have := h.2 j hj
 by_cases hij : i = j
 ·subst hij
  simp [hj, show i < c'.size by omega, hv]
 ·simp only [Array.getD_eq_getD_getElem?, Array.getElem?_setIfInBounds_ne hij] at this ⊢
  exact this
def g0 : Value → Bool
 | .bool _ | .int .. | .float .. | .complex .. | .string _ | .pointer none | .slice none 0 0 | .map none | .nilFunc | .nilIface => true
 | .func _ f c => f.isEmpty && c.isEmpty
 | _ => false
def g1 : Value → Bool
 | .agg cs => cs.all g0
 | .tuple vs => vs.all fun v => match v with | .agg cs => cs.all g0 | v => g0 v
 | v => g0 v
theorem g0_rel {R : Pl} {v : Value} (h : g0 v = true) : Rel R v v := by
 unfold g0 at h
 split at h
 ·exact .bool _
 ·exact .int _ _
 ·exact .float _ _
 ·exact .complex _ _ _
 ·exact .string _
 ·exact .ptrNil
 ·exact .sliceNil
 ·exact .mapNil
 ·exact .nilFunc
 ·exact .nilIface
 ·simp at h
  obtain ⟨h1, h2⟩ := h
  subst h1; subst h2
  exact .func _ _ _ _ _ rfl (fun i hi => absurd hi (by simp)) rfl (fun i hi => absurd hi (by simp))
 ·cases h
theorem all_getD {c : Array Value} {p : Value → Bool} (h : c.all p = true) {i : Nat} (hi : i < c.size) : p (c.getD i undef) = true := by
 have := (Array.all_eq_true.1 h) i hi
 simpa [hi] using this
theorem g1_rel {R : Pl} {v : Value} (h : g1 v = true) : Rel R v v := by
 unfold g1 at h
 split at h
 ·exact .agg _ _ rfl fun i hi => g0_rel (all_getD h hi)
 ·refine .tuple _ _ rfl fun i hi => ?_
  have := all_getD h hi
  split at this
  ·rename_i cs e; rw [e]; exact .agg _ _ rfl fun i hi => g0_rel (all_getD this hi)
  ·exact g0_rel this
 ·exact g0_rel h
theorem g1_eq {R : Pl} {v v' : Value} (h : g1 v = true) (hv : Rel R v v') : v' = v := hv.fn v (g1_rel h)
inductive Kind | own | grow | ro | edge | map | rom | str
 deriving DecidableEq
def Kind.solid : Kind → Bool
 | .own | .grow => true
 | _ => false
def Kind.mine : Kind → Bool
 | .own | .grow | .map | .str => true
 | _ => false
theorem Kind.solid_mine {k : Kind} (h : k.solid = true) : k.mine = true := by cases k <;> first | rfl | cases h
structure Blk where
 cells : List Value
 kind : Kind := .own
 /-- cells of an element: for rows that may grow -/
 size : Nat := 1
 /-- a map's entries -/
 ents : List (Value × Value) := []
abbrev AM := List (Option Blk)
def RelE (R : Pl) (l : List (Value × Value)) (es : List MapEntry) : Prop :=
 l.length = es.length ∧ ∀ (j : Nat) (k v : Value), l[j]? = some (k, v) → ∃ e, es[j]? = some e ∧ e.key = k ∧ e.born = j ∧ Rel R v e.val
theorem RelE.mono {R R' : Pl} {l : List (Value × Value)} {es : List MapEntry} (h : RelE R l es) (hR : R.le R') : RelE R' l es :=
 ⟨h.1, fun j k v hj => by obtain ⟨e, h1, h2, h3, h4⟩ := h.2 j k v hj; exact ⟨e, h1, h2, h3, h4.mono hR⟩⟩
def BRep (base : Nat) (R : Pl) (b : Blk) (p : Place) (w : World) : Prop :=
 p.block < w.heap.size ∧
 match b.kind with
 | .ro => (b.size = 0 → p.extra = 0) ∧ ∀ j v, b.cells[j]? = some v → ∃ v', w.cell? ⟨p.block, p.off + j, none⟩ = some v' ∧ Rel R v v'
 | .edge => b.cells = [] ∧ p.extra = 0
 | .map => b.cells = [] ∧ p.extra = 0 ∧ base ≤ p.block ∧ ∃ es, w.heap[p.block]? = some (.map es es.size) ∧ RelE R b.ents es.toList
 | .rom => b.cells = [] ∧ p.extra = 0 ∧ ∃ es, w.heap[p.block]? = some (.map es es.size) ∧ RelE R b.ents es.toList
 | .str => ∃ cur ty, w.heap[p.block]? = some (.cells cur ty (cur.size, cur.size + 1)) ∧ base ≤ p.block ∧ p.off + b.cells.length + p.extra * b.size ≤ cur.size ∧
   ∀ j v, b.cells[j]? = some v → ∃ v', cur[p.off + j]? = some v' ∧ Rel R v v' ∧ v'.oneCell' = true
 | k => ∃ cur ty, w.heap[p.block]? = some (.cells cur ty (0, 0)) ∧ base ≤ p.block ∧ p.off + b.cells.length + p.extra * b.size ≤ cur.size ∧ (k = .own → p.extra = 0) ∧
   ∀ j v, b.cells[j]? = some v → ∃ v', cur[p.off + j]? = some v' ∧ Rel R v v' ∧ v'.oneCell' = true
structure MRep (base : Nat) (R : Pl) (m : AM) (w : World) : Prop where
 none_ : ∀ i, m.length ≤ i → R i = none
 rep : ∀ (i : Nat) (b : Blk), m[i]? = some (some b) → ∃ p, R i = some p ∧ BRep base R b p w
 apart : ∀ (i j : Nat) (b c : Blk) (p q : Place), m[i]? = some (some b) → m[j]? = some (some c) → b.kind.mine = true → c.kind ≠ .edge → i ≠ j → R i = some p → R j = some q → p.block ≠ q.block
def Owned (m : AM) (R : Pl) (k : Nat) : Prop := ∃ (i : Nat) (b : Blk) (p : Place), m[i]? = some (some b) ∧ b.kind.mine = true ∧ R i = some p ∧ p.block = k
theorem MRep.nil (base : Nat) (w : World) : MRep base (fun _ => none) [] w := ⟨fun _ _ => rfl, fun i b h => by simp at h, fun i j b c p q h => by simp at h⟩
theorem BRep.mono {base : Nat} {R R' : Pl} {b : Blk} {p : Place} {w : World} (h : BRep base R b p w) (hR : R.le R') : BRep base R' b p w := by
 unfold BRep at *
 obtain ⟨h0, h⟩ := h
 refine ⟨h0, ?_⟩
 split at h
 ·exact ⟨h.1, fun j v hj => by obtain ⟨v', h1, h2⟩ := h.2 j v hj; exact ⟨v', h1, h2.mono hR⟩⟩
 ·exact h
 ·obtain ⟨h1, h2, h3, es, h4, h5⟩ := h
  exact ⟨h1, h2, h3, es, h4, h5.mono hR⟩
 ·obtain ⟨h1, h2, es, h4, h5⟩ := h
  exact ⟨h1, h2, es, h4, h5.mono hR⟩
 ·obtain ⟨cur, ty, h1, h2, h3, h5⟩ := h
  exact ⟨cur, ty, h1, h2, h3, fun j v hj => by obtain ⟨v', k1, k2, k3⟩ := h5 j v hj; exact ⟨v', k1, k2.mono hR, k3⟩⟩
 ·obtain ⟨cur, ty, h1, h2, h3, h4, h5⟩ := h
  exact ⟨cur, ty, h1, h2, h3, h4, fun j v hj => by obtain ⟨v', k1, k2, k3⟩ := h5 j v hj; exact ⟨v', k1, k2.mono hR, k3⟩⟩
theorem BRep.kept {base : Nat} {R : Pl} {b : Blk} {p : Place} {w w' : World} (h : BRep base R b p w) (hk : w'.heap[p.block]? = w.heap[p.block]?) : BRep base R b p w' := by
 unfold BRep at *
 obtain ⟨h0, h⟩ := h
 refine ⟨?_, ?_⟩
 ·rw [Array.getElem?_eq_getElem h0] at hk
  exact (Array.getElem?_eq_some_iff.1 hk).1
 split at h
 ·exact ⟨h.1, fun j v hj => by obtain ⟨v', h1, h2⟩ := h.2 j v hj; exact ⟨v', (World.cell?_of_block (w := w) (by exact hk)).trans h1, h2⟩⟩
 ·exact h
 ·obtain ⟨h1, h2, h3, es, h4, h5⟩ := h
  exact ⟨h1, h2, h3, es, hk.trans h4, h5⟩
 ·obtain ⟨h1, h2, es, h4, h5⟩ := h
  exact ⟨h1, h2, es, hk.trans h4, h5⟩
 ·obtain ⟨cur, ty, h1, h2⟩ := h
  exact ⟨cur, ty, hk.trans h1, h2⟩
 ·obtain ⟨cur, ty, h1, h2⟩ := h
  exact ⟨cur, ty, hk.trans h1, h2⟩
theorem BRep.lt {base : Nat} {R : Pl} {b : Blk} {p : Place} {w : World} (h : BRep base R b p w) : p.block < w.heap.size := h.1
theorem BRep.base {base : Nat} {R : Pl} {b : Blk} {p : Place} {w : World} (h : BRep base R b p w) (hb : b.kind.mine = true) : base ≤ p.block := by
 unfold BRep at h
 obtain ⟨_, h⟩ := h
 split at h
 ·rename_i e; rw [e] at hb; cases hb
 ·rename_i e; rw [e] at hb; cases hb
 ·exact h.2.2.1
 ·rename_i e; rw [e] at hb; cases hb
 ·exact h.elim fun _ h => h.elim fun _ h => h.2.1
 ·exact h.elim fun _ h => h.elim fun _ h => h.2.1
structure Post (base : Nat) (m m' : AM) (R R' : Pl) (w w' : World) : Prop where
 le : R.le R'
 rep : MRep base R' m' w'
 os : w'.os = w.os
 tape : w'.tape = w.tape
 output : w'.output = w.output
 size : w.heap.size ≤ w'.heap.size
 keep : ∀ k, k < w.heap.size → ¬ Owned m R k → w'.heap[k]? = w.heap[k]?
 sub : ∀ k, Owned m' R' k → w.heap.size ≤ k ∨ Owned m R k
theorem Post.refl {base : Nat} {m : AM} {R : Pl} {w : World} (h : MRep base R m w) : Post base m m R R w w := ⟨.refl R, h, rfl, rfl, rfl, Nat.le_refl _, fun _ _ _ => rfl, fun _ h => .inr h⟩
theorem Post.trans {base : Nat} {m m' m'' : AM} {R R' R'' : Pl} {w w' w'' : World} (h : Post base m m' R R' w w') (k : Post base m' m'' R' R'' w' w'') : Post base m m'' R R'' w w'' := by
 refine ⟨h.le.trans k.le, k.rep, k.os.trans h.os, k.tape.trans h.tape, k.output.trans h.output, Nat.le_trans h.size k.size, fun i hi ho => ?_, fun i hi => ?_⟩
 ·refine (k.keep i (Nat.lt_of_lt_of_le hi h.size) fun ho' => ?_).trans (h.keep i hi ho)
  rcases h.sub i ho' with h1 | h1
  ·omega
  ·exact ho h1
 ·rcases k.sub i hi with h1 | h1
  ·exact .inl (Nat.le_trans h.size h1)
  ·exact h.sub i h1
theorem Owned.base {base : Nat} {m : AM} {R : Pl} {w : World} (h : MRep base R m w) {k : Nat} (ho : Owned m R k) : base ≤ k := by
 obtain ⟨i, b, p, h1, h2, h3, rfl⟩ := ho
 obtain ⟨q, k1, k2⟩ := h.rep i b h1
 rw [h3] at k1; injection k1 with k1; subst k1
 exact k2.base h2
theorem Post.below {base : Nat} {m m' : AM} {R R' : Pl} {w w' : World} (h : Post base m m' R R' w w') (hm : MRep base R m w) (hb : base ≤ w.heap.size) : Below base w w' :=
 ⟨h.os, h.tape, h.output, h.size, fun k hk => h.keep k (by omega) fun ho => by have := ho.base hm; omega⟩
section
variable {base : Nat} {R : Pl} {m : AM} {w w' : World}
theorem MRep.kept (h : MRep base R m w) (hk : ∀ k, k < w.heap.size → w'.heap[k]? = w.heap[k]?) : MRep base R m w' :=
 ⟨h.none_, fun i b hi => by
  obtain ⟨p, h1, h2⟩ := h.rep i b hi
  exact ⟨p, h1, h2.kept (hk _ h2.lt)⟩, h.apart⟩
theorem Post.drew (h : MRep base R m w) : Post base m m R R w w.drew := ⟨.refl R, h.kept fun _ _ => rfl, rfl, rfl, rfl, Nat.le_refl _, fun _ _ _ => rfl, fun _ h => .inr h⟩
theorem MRep.put (h : MRep base R m w) (n : Nat) (hn : n < m.length) (hfree : m[n]? = some none) (hR : R n = none) (c : Blk) (p : Place) (hk : ∀ k, k < w.heap.size → w'.heap[k]? = w.heap[k]?)
  (hp : p.block = w.heap.size) (hc : BRep base R c p w') : R.le (R.put n p) ∧ MRep base (R.put n p) (m.set n (some c)) w' := by
 have hle := Pl.le_put R n p hR
 have old : ∀ (i : Nat) (b : Blk), (m.set n (some c))[i]? = some (some b) → i ≠ n → m[i]? = some (some b) := by
  intro i b hi hne
  rwa [List.getElem?_set_ne (fun e => hne e.symm)] at hi
 have hnew : ∀ (b : Blk), (m.set n (some c))[n]? = some (some b) → b = c := by
  intro b hi
  rw [List.getElem?_set_self hn] at hi
  injection hi with hi; injection hi with hi; exact hi.symm
 refine ⟨hle, ⟨fun i hi => ?_, fun i b hi => ?_, fun i j b c' q q' hi hj hbo hco hij hq hq' => ?_⟩⟩
 ·simp at hi
  rw [Pl.put_other _ _ (by omega)]
  exact h.none_ i hi
 ·by_cases hne : i = n
  ·subst hne
   have := hnew b hi
   subst this
   exact ⟨p, Pl.put_same _ _ _, hc.mono hle⟩
  ·obtain ⟨q, h1, h2⟩ := h.rep i b (old i b hi hne)
   exact ⟨q, hle _ _ h1, (h2.kept (hk _ h2.lt)).mono hle⟩
 ·by_cases h1 : i = n
  ·subst h1
   have h2 : j ≠ i := fun e => hij e.symm
   rw [Pl.put_same] at hq
   injection hq with hq
   subst hq
   rw [Pl.put_other _ _ h2] at hq'
   obtain ⟨q2, k1, k2⟩ := h.rep j c' (old j c' hj h2)
   rw [hq'] at k1; injection k1 with k1; subst k1
   have := k2.lt
   omega
  ·by_cases h2 : j = n
   ·subst h2
    rw [Pl.put_same] at hq'
    injection hq' with hq'
    subst hq'
    rw [Pl.put_other _ _ h1] at hq
    obtain ⟨q2, k1, k2⟩ := h.rep i b (old i b hi h1)
    rw [hq] at k1; injection k1 with k1; subst k1
    have := k2.lt
    omega
   ·rw [Pl.put_other _ _ h1] at hq
    rw [Pl.put_other _ _ h2] at hq'
    exact h.apart i j b c' q q' (old i b hi h1) (old j c' hj h2) hbo hco hij hq hq'
theorem MRep.pad (h : MRep base R m w) (n : Nat) : MRep base R (m ++ List.replicate n none) w := by
 have old : ∀ (i : Nat) (b : Blk), (m ++ List.replicate n none)[i]? = some (some b) → m[i]? = some (some b) := by
  intro i b hi
  by_cases hl : i < m.length
  ·rwa [List.getElem?_append_left hl] at hi
  ·rw [List.getElem?_append_right (by omega), List.getElem?_replicate] at hi
   split at hi <;> cases hi
 exact ⟨fun i hi => h.none_ i (by simp at hi; omega), fun i b hi => h.rep i b (old i b hi), fun i j b c p q hi hj => h.apart i j b c p q (old i b hi) (old j c hj)⟩
theorem Owned.pad {n k : Nat} (h : Owned (m ++ List.replicate n none) R k) : Owned m R k := by
 obtain ⟨i, b, p, h1, h2⟩ := h
 refine ⟨i, b, p, ?_, h2⟩
 by_cases hl : i < m.length
 ·rwa [List.getElem?_append_left hl] at h1
 ·rw [List.getElem?_append_right (by omega), List.getElem?_replicate] at h1
  split at h1 <;> cases h1
theorem MRep.drop (h : MRep base R m w) (i : Nat) : MRep base R (m.set i none) w := by
 have old : ∀ (j : Nat) (b : Blk), (m.set i none)[j]? = some (some b) → m[j]? = some (some b) := by
  intro j b hj
  by_cases e : i = j
  ·subst e
   rw [List.getElem?_set] at hj
   split at hj
   ·split at hj <;> cases hj
   ·exact hj
  ·rwa [List.getElem?_set_ne e] at hj
 exact ⟨fun j hj => h.none_ j (by simpa using hj), fun j b hj => h.rep j b (old j b hj), fun j k b c p q hj hk => h.apart j k b c p q (old j b hj) (old k c hk)⟩
theorem MRep.turn (h : MRep base R m w) {i : Nat} {b : Blk} (hi : m[i]? = some (some b)) (hk : b.kind.mine = true) {p : Place} (hp : R i = some p) (c : Blk) (hck : c.kind.mine = true)
  (hc : BRep base R c p w') (hw : ∀ k, k ≠ p.block → w'.heap[k]? = w.heap[k]?) (hsz : w'.heap.size = w.heap.size) : MRep base R (m.set i (some c)) w' := by
 have hl : i < m.length := (List.getElem?_eq_some_iff.1 hi).1
 have old : ∀ (j : Nat) (d : Blk), (m.set i (some c))[j]? = some (some d) → j ≠ i → m[j]? = some (some d) := by
  intro j d hj hne
  rwa [List.getElem?_set_ne (fun e => hne e.symm)] at hj
 have hnew : ∀ (d : Blk), (m.set i (some c))[i]? = some (some d) → d = c := by
  intro d hj
  rw [List.getElem?_set_self hl] at hj
  injection hj with hj; injection hj with hj; exact hj.symm
 refine ⟨fun j hj => h.none_ j (by simpa using hj), fun j d hj => ?_, fun j k d e q q' hj hk' hdo heo hjk hq hq' => ?_⟩
 ·by_cases hne : j = i
  ·subst hne
   have := hnew d hj
   subst this
   exact ⟨p, hp, hc⟩
  ·obtain ⟨q, h1, h2⟩ := h.rep j d (old j d hj hne)
   refine ⟨q, h1, ?_⟩
   by_cases hr : d.kind = .edge
   ·obtain ⟨z1, z2⟩ := h2
    refine ⟨by rw [hsz]; exact z1, ?_⟩
    rw [hr] at z2 ⊢
    exact z2
   ·exact h2.kept (hw _ (fun e => h.apart i j b d p q hi (old j d hj hne) hk hr (fun x => hne x.symm) hp h1 e.symm))
 ·by_cases h1 : j = i
  ·subst h1
   exact h.apart j k b e q q' hi (old k e hk' (fun x => hjk x.symm)) hk heo hjk hq hq'
  ·by_cases h2 : k = i
   ·subst h2
    exact h.apart j k d b q q' (old j d hj h1) hi hdo (by intro e; rw [e] at hk; cases hk) hjk hq hq'
   ·exact h.apart j k d e q q' (old j d hj h1) (old k e hk' h2) hdo heo hjk hq hq'
end
section
variable {P : Program} {base : Nat} {R : Pl} {m : AM} {w : World}
theorem BRep.cell {b : Blk} {p : Place} (h : BRep base R b p w) {j : Nat} {v : Value} (hj : b.cells[j]? = some v) : ∃ v', w.cell? ⟨p.block, p.off + j, none⟩ = some v' ∧ Rel R v v' := by
 unfold BRep at h
 obtain ⟨_, h⟩ := h
 split at h
 ·exact h.2 j v hj
 ·rw [h.1] at hj; simp at hj
 ·rw [h.1] at hj; simp at hj
 ·rw [h.1] at hj; simp at hj
 ·obtain ⟨cur, ty, h1, _, _, h5⟩ := h
  obtain ⟨v', k1, k2, _⟩ := h5 j v hj
  exact ⟨v', by simp [World.cell?, h1, k1], k2⟩
 ·obtain ⟨cur, ty, h1, _, _, _, h5⟩ := h
  obtain ⟨v', k1, k2, _⟩ := h5 j v hj
  exact ⟨v', by simp [World.cell?, h1, k1], k2⟩
theorem MRep.at_ (h : MRep base R m w) {i : Nat} {b : Blk} (hi : m[i]? = some (some b)) : ∃ p, R i = some p ∧ BRep base R b p w := by
 exact h.rep i b hi
theorem MRep.of (h : MRep base R m w) {i : Nat} {b : Blk} (hi : m[i]? = some (some b)) {p : Place} (hp : R i = some p) : BRep base R b p w := by
 obtain ⟨q, h1, h2⟩ := h.at_ hi
 rw [hp] at h1; injection h1 with h1; rw [h1]; exact h2
def RelL (R : Pl) (l l' : List Value) : Prop := l.length = l'.length ∧ ∀ (j : Nat) (v : Value), l[j]? = some v → ∃ v', l'[j]? = some v' ∧ Rel R v v'
theorem RelL.rels {l l' : List Value} (h : RelL R l l') : Rels R l.toArray l'.toArray := by
 refine ⟨by simpa using h.1, fun i hi => ?_⟩
 simp at hi
 obtain ⟨v', h1, h2⟩ := h.2 i l[i] (by simp [hi])
 simp [hi, h1, h2]
theorem Rels.relL {c c' : Array Value} (h : Rels R c c') : RelL R c.toList c'.toList := by
 refine ⟨by simpa using h.1, fun j v hj => ?_⟩
 have hj' : c[j]? = some v := by simpa using hj
 have hl : j < c.size := (Array.getElem?_eq_some_iff.1 hj').1
 have h1 := h.1
 have h2 := h.2 j hl
 refine ⟨c'[j]'(by omega), by simp [show j < c'.size by omega], ?_⟩
 simpa [hj', show j < c'.size by omega] using h2
theorem RelL.app {l l' k k' : List Value} (h : RelL R l l') (g : RelL R k k') : RelL R (l ++ k) (l' ++ k') := by
 refine ⟨by simp [h.1, g.1], fun j v hj => ?_⟩
 by_cases hl : j < l.length
 ·rw [List.getElem?_append_left hl] at hj
  rw [List.getElem?_append_left (by rw [← h.1]; exact hl)]
  exact h.2 j v hj
 ·rw [List.getElem?_append_right (by omega)] at hj
  rw [List.getElem?_append_right (by rw [← h.1]; omega), ← h.1]
  exact g.2 _ v hj
theorem RelL.take {l l' : List Value} (h : RelL R l l') (n : Nat) : RelL R (l.take n) (l'.take n) := by
 refine ⟨by simp [h.1], fun j v hj => ?_⟩
 rw [List.getElem?_take] at hj ⊢
 split at hj
 ·rename_i hlt; rw [if_pos hlt]; exact h.2 j v hj
 ·cases hj
theorem RelL.drop {l l' : List Value} (h : RelL R l l') (n : Nat) : RelL R (l.drop n) (l'.drop n) := by
 refine ⟨by simp [h.1], fun j v hj => ?_⟩
 rw [List.getElem?_drop] at hj ⊢
 exact h.2 _ v hj
theorem RelL.mono {R' : Pl} {l l' : List Value} (h : RelL R l l') (hR : R.le R') : RelL R' l l' := ⟨h.1, fun j v hj => by obtain ⟨v', h1, h2⟩ := h.2 j v hj; exact ⟨v', h1, h2.mono hR⟩⟩
theorem RelL.nil : RelL R [] [] := ⟨rfl, fun j v h => by simp at h⟩
theorem RelL.cons {v v' : Value} {l l' : List Value} (hv : Rel R v v') (h : RelL R l l') : RelL R (v :: l) (v' :: l') := by
 refine ⟨by simp [h.1], fun j u hj => ?_⟩
 cases j with
 | zero => simp at hj; subst hj; exact ⟨v', rfl, hv⟩
 | succ j => exact h.2 j u (by simpa using hj)
theorem Rel.one {v v' : Value} (h : Rel R v v') : v'.oneCell' = v.oneCell' := by cases h <;> rfl
theorem RelL.one {l l' : List Value} (h : RelL R l l') (h1 : ∀ v ∈ l, v.oneCell' = true) : ∀ v ∈ l', v.oneCell' = true := by
 intro v hv
 obtain ⟨j, hj, rfl⟩ := List.getElem_of_mem hv
 have hl := h.1
 obtain ⟨v', k1, k2⟩ := h.2 j (l[j]'(by omega)) (by simp)
 rw [List.getElem?_eq_getElem hj] at k1
 injection k1 with k1
 rw [k1, k2.one]
 exact h1 _ (List.getElem_mem _)
theorem Rel.cells {v v' : Value} (h : Rel R v v') : Rels R v.cells v'.cells := by
 cases h with
 | agg c c' h1 h2 => exact ⟨h1, h2⟩
 | bool b => exact ⟨rfl, fun i hi => by simp [Value.cells] at hi; subst hi; simpa [Value.cells] using Rel.bool (R := R) b⟩
 | int k n => exact ⟨rfl, fun i hi => by simp [Value.cells] at hi; subst hi; simpa [Value.cells] using Rel.int (R := R) k n⟩
 | float k n => exact ⟨rfl, fun i hi => by simp [Value.cells] at hi; subst hi; simpa [Value.cells] using Rel.float (R := R) k n⟩
 | complex k n m => exact ⟨rfl, fun i hi => by simp [Value.cells] at hi; subst hi; simpa [Value.cells] using Rel.complex (R := R) k n m⟩
 | string s => exact ⟨rfl, fun i hi => by simp [Value.cells] at hi; subst hi; simpa [Value.cells] using Rel.string (R := R) s⟩
 | ptrNil => exact ⟨rfl, fun i hi => by simp [Value.cells] at hi; subst hi; simpa [Value.cells] using Rel.ptrNil (R := R)⟩
 | ptr i o p h => exact ⟨rfl, fun i hi => by simp [Value.cells] at hi; subst hi; simpa [Value.cells] using Rel.ptr _ o p h⟩
 | sliceNil => exact ⟨rfl, fun i hi => by simp [Value.cells] at hi; subst hi; simpa [Value.cells] using Rel.sliceNil (R := R)⟩
 | slice i o n c p h hn => exact ⟨rfl, fun i hi => by simp [Value.cells] at hi; subst hi; simpa [Value.cells] using Rel.slice _ o n c p h hn⟩
 | sliceSpot i o k p h => exact ⟨rfl, fun i hi => by simp [Value.cells] at hi; subst hi; simpa [Value.cells] using Rel.sliceSpot _ o k p h⟩
 | mapNil => exact ⟨rfl, fun i hi => by simp [Value.cells] at hi; subst hi; simpa [Value.cells] using Rel.mapNil (R := R)⟩
 | mapAt i p h => exact ⟨rfl, fun i hi => by simp [Value.cells] at hi; subst hi; simpa [Value.cells] using Rel.mapAt _ p h⟩
 | nilFunc => exact ⟨rfl, fun i hi => by simp [Value.cells] at hi; subst hi; simpa [Value.cells] using Rel.nilFunc (R := R)⟩
 | nilIface => exact ⟨rfl, fun i hi => by simp [Value.cells] at hi; subst hi; simpa [Value.cells] using Rel.nilIface (R := R)⟩
 | func fn f c f' c' h1 h2 h3 h4 => exact ⟨rfl, fun i hi => by simp [Value.cells] at hi; subst hi; simpa [Value.cells] using Rel.func fn f c f' c' h1 h2 h3 h4⟩
 | tuple c c' h1 h2 => exact ⟨rfl, fun i hi => by simp [Value.cells] at hi; subst hi; simpa [Value.cells] using Rel.tuple c c' h1 h2⟩
theorem BRep.cells {b : Blk} {p : Place} (h : BRep base R b p w) (o n : Nat) (hn : o + n ≤ b.cells.length) :
  ∃ l', RelL R ((b.cells.drop o).take n) l' ∧ ∀ j v', l'[j]? = some v' → w.cell? ((⟨p.block, p.off + o, none⟩ : Addr).add j) = some v' := by
 let f : Nat → Value := fun j => (w.cell? ⟨p.block, p.off + (o + j), none⟩).getD undef
 refine ⟨(List.range n).map f, ⟨by simp; omega, fun j v hj => ?_⟩, fun j v' hj => ?_⟩
 ·rw [List.getElem?_take] at hj
  split at hj
  ·rename_i hlt
   rw [List.getElem?_drop] at hj
   obtain ⟨v', k1, k2⟩ := h.cell hj
   exact ⟨v', by simp [hlt, f, k1], k2⟩
  ·cases hj
 ·by_cases hlt : j < n
  ·simp [hlt] at hj
   subst hj
   have hb : b.cells[o + j]? = some (b.cells[o + j]'(by omega)) := by simp
   obtain ⟨v', k1, _⟩ := h.cell hb
   simp [Addr.add_lit, f, Nat.add_assoc, k1]
  ·rw [List.getElem?_eq_none (by simp; omega)] at hj
   cases hj
def splice (l : List Value) (o : Nat) (xs : List Value) : List Value := l.take o ++ xs ++ l.drop (o + xs.length)
theorem splice_length {l : List Value} {o : Nat} {xs : List Value} (h : o + xs.length ≤ l.length) : (splice l o xs).length = l.length := by
 simp [splice]; omega
theorem splice_get {l : List Value} {o : Nat} {xs : List Value} (h : o + xs.length ≤ l.length) (j : Nat) :
  (splice l o xs)[j]? = if j < o then l[j]? else if j < o + xs.length then xs[j - o]? else l[j]? := by
 unfold splice
 by_cases h1 : j < o
 ·rw [if_pos h1, List.append_assoc, List.getElem?_append_left (by simp; omega), List.getElem?_take, if_pos h1]
 ·rw [if_neg h1, List.append_assoc, List.getElem?_append_right (by simp; omega)]
  have hl : (l.take o).length = o := by simp; omega
  rw [hl]
  by_cases h2 : j < o + xs.length
  ·rw [if_pos h2, List.getElem?_append_left (by omega)]
  ·rw [if_neg h2, List.getElem?_append_right (by omega), List.getElem?_drop]
   congr 1
   omega
theorem write_ok (h : MRep base R m w) {i : Nat} {b : Blk} (hi : m[i]? = some (some b)) (hk : b.kind.solid = true) {p : Place} (hp : R i = some p) {o : Nat} {xs xs' : List Value}
  (hx : RelL R xs xs') (h1 : ∀ v ∈ xs, v.oneCell' = true) (hfit : o + xs.length ≤ b.cells.length) :
  ∃ w', (storeCells ⟨p.block, p.off + o, none⟩ xs').run P w = .ok () w' ∧ Post base m (m.set i (some { b with cells := splice b.cells o xs })) R R w w' := by
 have hr := h.of hi hp
 have hr0 := hr
 unfold BRep at hr
 obtain ⟨hlt, hr⟩ := hr
 have hli : i < m.length := (List.getElem?_eq_some_iff.1 hi).1
 split at hr
 ·rename_i e; rw [e] at hk; cases hk
 ·rename_i e; rw [e] at hk; cases hk
 ·rename_i e; rw [e] at hk; cases hk
 ·rename_i e; rw [e] at hk; cases hk
 ·rename_i e; rw [e] at hk; cases hk
 ·rename_i k hk2
  obtain ⟨cur, ty, k1, k2, k3, k4, k5⟩ := hr
  have hxl := hx.1
  have hst := run_storeCells_at P p.block (p.off + o) ty xs' 0 cur w k1 (by omega) (hx.one h1)
  simp only [Nat.add_zero] at hst
  refine ⟨_, hst, .refl R, h.turn hi (Kind.solid_mine hk) hp _ (Kind.solid_mine hk) ?_ ?_ ?_, rfl, rfl, rfl, by simp [World.setRow], fun k' hk' ho => ?_, fun k' ho => ?_⟩
  ·unfold BRep
   refine ⟨by simpa [World.setRow] using hlt, ?_⟩
   split
   ·rename_i e; rw [e] at hk; cases hk
   ·rename_i e; rw [e] at hk; cases hk
   ·rename_i e; rw [e] at hk; cases hk
   ·rename_i e; rw [e] at hk; cases hk
   ·rename_i e; rw [e] at hk; cases hk
   ·rename_i k' hk'
    refine ⟨_, ty, setRow_heap w p.block cur _ ty (0, 0) k1, k2, ?_, fun e => k4 e, fun j v hj => ?_⟩
    ·simp only [splice_length hfit, List.size_toArray, List.length_append, List.length_take, List.length_drop, Array.length_toList]
     omega
    ·simp only at hj
     rw [splice_get hfit] at hj
     simp only [List.getElem?_toArray]
     have hg := splice_get (l := cur.toList) (o := p.off + o) (xs := xs') (by simp; omega) (p.off + j)
     unfold splice at hg
     rw [hg]
     by_cases c1 : j < o
     ·rw [if_pos c1] at hj
      rw [if_pos (by omega)]
      obtain ⟨v', q1, q2⟩ := k5 j v hj
      exact ⟨v', by simpa using q1, q2⟩
     ·rw [if_neg c1] at hj
      rw [if_neg (by omega)]
      by_cases c2 : j < o + xs.length
      ·rw [if_pos c2] at hj
       rw [if_pos (by omega)]
       obtain ⟨v', q1, q2⟩ := hx.2 _ v hj
       refine ⟨v', by rw [← q1]; congr 1; omega, q2, ?_⟩
       rw [q2.one]
       exact h1 v (List.mem_of_getElem? hj)
      ·rw [if_neg c2] at hj
       rw [if_neg (by omega)]
       obtain ⟨v', q1, q2⟩ := k5 j v hj
       exact ⟨v', by simpa using q1, q2⟩
  ·intro k' hne
   simp only [World.setRow, Array.getElem?_modify]
   rw [if_neg (by omega)]
  ·simp [World.setRow]
  ·simp only [World.setRow, Array.getElem?_modify]
   rw [if_neg (fun e => ho ⟨i, b, p, hi, Kind.solid_mine hk, hp, e⟩)]
  ·refine .inr ?_
   obtain ⟨j, c, q, q1, q2, q3, q4⟩ := ho
   by_cases e : j = i
   ·subst e
    exact ⟨j, b, q, hi, Kind.solid_mine hk, q3, q4⟩
   ·rw [List.getElem?_set_ne (fun x => e x.symm)] at q1
    exact ⟨j, c, q, q1, q2, q3, q4⟩
theorem put_ok (h : MRep base R m w) (hbase : base ≤ w.heap.size) (n : Nat) (hn : n < m.length) (hfree : m[n]? = some none) (hR : R n = none) (ty : TypeId) {l : List Value} {c' : Array Value} (hx : RelL R l c'.toList)
  (h1 : ∀ v ∈ l, v.oneCell' = true) :
  Post base m (m.set n (some { cells := l })) R (R.put n ⟨w.heap.size, 0, 0⟩) w (w.alloc (.cells c' ty)) := by
 have hb : Below w.heap.size w (w.alloc (.cells c' ty)) := (Below.refl _ _).alloc (Nat.le_refl _) _
 obtain ⟨k1, k2⟩ := h.put (w' := w.alloc (.cells c' ty)) n hn hfree hR { cells := l } ⟨w.heap.size, 0, 0⟩ hb.block rfl (by
  refine ⟨by simp, c', ty, heap_alloc_new w _, hbase, ?_, fun _ => rfl, fun j v hj => ?_⟩
  ·have := hx.1; simp at this ⊢; omega
  ·obtain ⟨v', q1, q2⟩ := hx.2 j v hj
   refine ⟨v', by simpa using q1, q2, ?_⟩
   rw [q2.one]; exact h1 v (List.mem_of_getElem? hj))
 refine ⟨k1, k2, rfl, rfl, rfl, hb.size, fun k hk _ => hb.block k hk, fun k ho => ?_⟩
 obtain ⟨j, c, q, q1, q2, q3, q4⟩ := ho
 by_cases e : j = n
 ·subst e
  rw [Pl.put_same] at q3
  injection q3 with q3
  subst q3
  exact .inl (by rw [← q4]; exact Nat.le_refl _)
 ·rw [List.getElem?_set_ne (fun x => e x.symm)] at q1
  rw [Pl.put_other _ _ e] at q3
  exact .inr ⟨j, c, q, q1, q2, q3, q4⟩
end
def Ran (P : Program) (s : Sem Next) (w : World) (v' : Value) (w' : World) : Prop := s.run P w = .ok (.value v') w' ∨ (s.run P w = .ok .skip w' ∧ v' = undef)
def Does (P : Program) (base : Nat) (R : Pl) (m : AM) (n : Nat) (w : World) (s : Sem Next) (v : Value) (m' : AM) : Prop :=
 ∃ R' v' w', Ran P s w v' w' ∧ Rel R' v v' ∧ Post base m m' R R' w w' ∧ ∀ i, i ≠ n → R' i = R i
def still (P : Program) {α : Type} : Sem α → Option α
 | .pure a => some a
 | .program k => still P (k P)
 | _ => none
theorem still_run (P : Program) {α : Type} : ∀ (s : Sem α) (a : α), still P s = some a → ∀ w, s.run P w = .ok a w := by
 intro s
 induction s with
 | pure a => intro b h w; simp [still] at h; subst h; rfl
 | program k ih => intro b h w; simp only [still] at h; exact ih _ b h w
 | _ => intro b h; simp [still] at h
section
variable {P : Program} {base : Nat} {R : Pl} {m : AM} {w : World} {n : Nat}
theorem does_same (h : MRep base R m w) {s : Sem Next} {v v' : Value} (hr : Ran P s w v' w) (hv : Rel R v v') : Does P base R m n w s v m := ⟨R, v', w, hr, hv, .refl h, fun _ _ => rfl⟩
def aggB (P : Program) (t : TypeId) : Option Bool := (P.underlying t).map fun d => match d with | .struct _ | .array _ _ => true | _ => false
def szB (P : Program) (t : TypeId) : Option Nat := (P.info? t).map (·.size)
theorem run_isAgg' {t : TypeId} {b : Bool} (h : aggB P t = some b) (w : World) : (isAgg t).run P w = .ok b w := by
 unfold aggB at h
 cases hu : P.underlying t with
 | none => simp [hu] at h
 | some d =>
  simp [hu] at h
  unfold isAgg
  simp only [Sem.run_bind, run_underlying hu, Result.andThen_ok]
  cases d <;> simp_all
theorem run_sizeOf' {t : TypeId} {n : Nat} (h : szB P t = some n) (w : World) : (sizeOf t).run P w = .ok n w := by
 unfold szB at h
 cases hi : P.info? t with
 | none => simp [hi] at h
 | some i =>
  simp [hi] at h
  simp [sizeOf, typeInfo, hi, h]
def aload (P : Program) (m : AM) (t : TypeId) : Value → Option Value
 | .pointer (some ⟨i, o, none⟩) =>
  match m[i]? with
  | some (some b) =>
   match aggB P t with
   | some true => match szB P t with
    | some n => if o + n ≤ b.cells.length then some (.agg ((b.cells.drop o).take n).toArray) else none
    | none => none
   | some false => b.cells[o]?
   | none => none
  | _ => none
 | _ => none
theorem aload_ok (h : ∀ (i : Nat) (b : Blk), m[i]? = some (some b) → ∃ p, R i = some p ∧ BRep base R b p w) {t : TypeId} {a a' v : Value} (ha : Rel R a a') (hl : aload P m t a = some v) : ∃ v', (Instr.loadAt t a').run P w = .ok v' w ∧ Rel R v v' := by
 unfold aload at hl
 split at hl
 ·rename_i i o
  cases ha with
  | ptr _ _ p hp =>
  split at hl
  ·rename_i b hb
   have hr : BRep base R b p w := by
    obtain ⟨q, k1, k2⟩ := h i b hb
    rw [hp] at k1; injection k1 with k1; rw [k1]; exact k2
   split at hl
   ·rename_i hg
    split at hl
    ·rename_i n hn
     split at hl
     ·rename_i hle
      injection hl with hl; subst hl
      obtain ⟨l', h1, h2⟩ := hr.cells o n hle
      have hlen : l'.length = n := by rw [← h1.1]; simp; omega
      have h3 := run_loadCells_list (P := P) w _ l' h2
      rw [hlen] at h3
      refine ⟨.agg l'.toArray, ?_, ?_⟩
      ·simp [Instr.loadAt, Instr.sureAddr, loadVar, run_isAgg' hg, run_sizeOf' hn, h3]
      ·have := h1.rels
       exact .agg _ _ this.1 this.2
     ·cases hl
    ·cases hl
   ·rename_i hg
    obtain ⟨v', h1, h2⟩ := hr.cell hl
    refine ⟨v', ?_, h2⟩
    simp [Instr.loadAt, Instr.sureAddr, loadVar, run_isAgg' hg, load, Sem.run, h1]
   ·cases hl
  ·cases hl
 ·cases hl
def astore (P : Program) (m : AM) (t : TypeId) (a x : Value) : Option AM :=
 match a with
 | .pointer (some ⟨i, o, none⟩) =>
  match m[i]?, szB P t with
  | some (some b), some n => if b.kind.solid && x.cells.size == n && decide (o + n ≤ b.cells.length) && x.cells.all (·.oneCell') then some (m.set i (some { b with cells := splice b.cells o x.cells.toList })) else none
  | _, _ => none
 | _ => none
theorem astore_ok (h : MRep base R m w) {t : TypeId} {a a' x x' : Value} {m' : AM} (ha : Rel R a a') (hx : Rel R x x') (hl : astore P m t a x = some m') :
  ∃ w', (Instr.storeAt t a' x').run P w = .ok () w' ∧ Post base m m' R R w w' := by
 unfold astore at hl
 split at hl
 ·rename_i i o
  cases ha with
  | ptr _ _ p hp =>
  split at hl
  ·rename_i b n hb hn
   split at hl
   ·rename_i hc
    injection hl with hl; subst hl
    simp only [Bool.and_eq_true, decide_eq_true_eq, beq_iff_eq] at hc
    obtain ⟨⟨⟨c1, c2⟩, c3⟩, c4⟩ := hc
    have hxc := hx.cells
    have hone : ∀ v ∈ x.cells.toList, v.oneCell' = true := fun v hv => by
     have := Array.all_eq_true'.1 c4 v (by simpa using hv)
     exact this
    obtain ⟨w', h1, h2⟩ := write_ok (P := P) h hb c1 hp (o := o) hxc.relL hone (by simp; omega)
    refine ⟨w', ?_, h2⟩
    have hs : x'.cells.size = n := by rw [← hxc.1]; exact c2
    simp [Instr.storeAt, Instr.sureAddr, storeVar, run_sizeOf' hn, hs, h1]
   ·cases hl
  ·cases hl
 ·cases hl
theorem set_new (h : MRep base R m w) (hbase : base ≤ w.heap.size) (hfree : m[n]? = some none) (hR : R n = none) {s : Sem Next} (ty : TypeId) {l : List Value} {c' : Array Value} (hx : RelL R l c'.toList)
  (h1 : ∀ v ∈ l, v.oneCell' = true) {v v' : Value} (hrun : s.run P w = .ok (.value v') (w.alloc (.cells c' ty))) (hv : Rel (R.put n ⟨w.heap.size, 0, 0⟩) v v') :
  Does P base R m n w s v (m.set n (some { cells := l })) :=
 ⟨_, v', _, .inl hrun, hv, put_ok h hbase n (List.getElem?_eq_some_iff.1 hfree).1 hfree hR ty hx h1, fun i hi => Pl.put_other _ _ hi⟩
theorem rel_new (k : Nat) : Rel (R.put n ⟨k, 0, 0⟩) (.pointer (some ⟨n, 0, none⟩)) (.pointer (some ⟨k, 0, none⟩)) := by
 have := Rel.ptr (R := R.put n ⟨k, 0, 0⟩) n 0 ⟨k, 0, 0⟩ (Pl.put_same _ _ _)
 simpa using this
theorem allOne {c : Array Value} (h : c.all (·.oneCell') = true) : ∀ v ∈ c.toList, v.oneCell' = true := fun v hv => Array.all_eq_true'.1 h v (by simpa using hv)
def g0one (c : Array Value) : Bool := c.all fun v => g0 v && v.oneCell'
theorem g0one_rel {c : Array Value} (h : g0one c = true) : RelL R c.toList c.toList ∧ ∀ v ∈ c.toList, v.oneCell' = true := by
 have hh : ∀ v ∈ c.toList, (g0 v && v.oneCell') = true := fun v hv => Array.all_eq_true'.1 h v (by simpa using hv)
 refine ⟨⟨rfl, fun j v hj => ⟨v, hj, g0_rel ?_⟩⟩, fun v hv => ?_⟩
 ·have := hh v (List.mem_of_getElem? hj)
  simp at this; exact this.1
 ·have := hh v hv
  simp at this; exact this.2
def zeroB (P : Program) (t : TypeId) : Option (Array Value) :=
 match P.info? t with
 | some i => match i.zero with
  | some z => if g0one z.cells then some z.cells else none
  | none => none
 | none => none
theorem zeroB_run {t : TypeId} {c : Array Value} (h : zeroB P t = some c) : g0one c = true ∧ ∃ i z, P.info? t = some i ∧ i.zero = some z ∧ z.cells = c ∧ ∀ w, (zeroValue t).run P w = .ok z w := by
 unfold zeroB at h
 split at h
 ·rename_i i hi
  split at h
  ·rename_i z hz
   split at h
   ·rename_i hg
    injection h with h; subst h
    exact ⟨hg, i, z, hi, hz, rfl, fun w => by simp [zeroValue, typeInfo, hi, hz]⟩
   ·cases h
  ·cases h
 ·cases h
theorem rel_add {i o k : Nat} {p : Place} (hp : R i = some p) : Rel R (.pointer (some ⟨i, o + k, none⟩)) (.pointer (some ((⟨p.block, p.off + o, none⟩ : Addr).add k))) := by
 rw [Addr.add_lit, Nat.add_assoc]
 exact .ptr i (o + k) p hp
def afield (P : Program) (s : TypeId) (a : Value) (f : Nat) : Option Value :=
 match P.underlying s, a with
 | some (.struct fs), .pointer (some ⟨i, o, none⟩) =>
  match fs[f]? with
  | some fd => match szB P fd.type with
   | some (_ + 1) => some (.pointer (some ⟨i, o + fd.offset, none⟩))
   | _ => none
  | none => none
 | _, _ => none
theorem afield_ok {s : TypeId} {a a' v : Value} {f : Nat} (ha : Rel R a a') (hl : afield P s a f = some v) : ∃ v', (Instr.fieldAt s a' f).run P w = .ok v' w ∧ Rel R v v' := by
 unfold afield at hl
 split at hl
 ·rename_i fs i o hu
  cases ha with
  | ptr _ _ p hp =>
  split at hl
  ·rename_i fd hf
   split at hl
   ·rename_i k hs
    injection hl with hl; subst hl
    refine ⟨_, ?_, rel_add hp (k := fd.offset)⟩
    simp [Instr.fieldAt, run_underlying hu, hf, Instr.sureAddr, fieldPlace, run_sizeOf' hs]
   ·cases hl
  ·cases hl
 ·cases hl
def aindex (P : Program) (t : TypeId) (x ix : Value) : Option Value :=
 match P.underlying t, x, ix with
 | some (.array len e), .pointer (some ⟨i, o, none⟩), .int _ k =>
  match szB P e with
  | some s => if 0 ≤ k ∧ k < len then some (.pointer (some ⟨i, o + k.toNat * s, none⟩)) else none
  | none => none
 | some (.slice e), .slice (some ⟨i, o, none⟩) len _, .int _ k =>
  match szB P e with
  | some s => if 0 ≤ k ∧ k < len then some (.pointer (some ⟨i, o + k.toNat * s, none⟩)) else none
  | none => none
 | _, _, _ => none
theorem aindex_ok {t : TypeId} {x x' ix v : Value} (hx : Rel R x x') (hl : aindex P t x ix = some v) : ∃ v', (Instr.indexAt t x' ix).run P w = .ok v' w ∧ Rel R v v' := by
 unfold aindex at hl
 split at hl
 ·rename_i len e i o kk k hu
  cases hx with
  | ptr _ _ p hp =>
  split at hl
  ·rename_i s hs
   split at hl
   ·rename_i hk
    injection hl with hl; subst hl
    refine ⟨_, ?_, rel_add hp (k := k.toNat * s)⟩
    simp [Instr.indexAt, asIntOf, run_underlying hu, Instr.sureAddr, hk, run_sizeOf' hs]
   ·cases hl
  ·cases hl
 ·rename_i e i o len c kk k hu
  cases hx with
  | slice _ _ _ _ p hp =>
  split at hl
  ·rename_i s hs
   split at hl
   ·rename_i hk
    injection hl with hl; subst hl
    refine ⟨_, ?_, rel_add hp (k := k.toNat * s)⟩
    simp [Instr.indexAt, asIntOf, run_underlying hu, hk, run_sizeOf' hs]
   ·cases hl
  ·cases hl
 ·cases hl
def apart_ (P : Program) (t : TypeId) (c : Array Value) (o : Nat) : Option Value :=
 match aggB P t with
 | some true => match szB P t with
  | some n => some (.agg (c.extract o (o + n)))
  | none => none
 | some false => c[o]?
 | none => none
theorem apart_ok {t : TypeId} {c c' : Array Value} {o : Nat} {v : Value} (hc : Rels R c c') (hl : apart_ P t c o = some v) : ∃ v', (part t c' o).run P w = .ok v' w ∧ Rel R v v' := by
 unfold apart_ at hl
 have h0 := hc.1
 split at hl
 ·rename_i hg
  split at hl
  ·rename_i n hn
   injection hl with hl; subst hl
   refine ⟨.agg (c'.extract o (o + n)), by simp [part, run_isAgg' hg, run_sizeOf' hn], .agg _ _ (by simp [h0]) fun i hi => ?_⟩
   simp at hi
   have := hc.2 (o + i) (by omega)
   simpa [hi, show i < min (o + n) c'.size - o by omega, show o + i < c.size by omega, show o + i < c'.size by omega] using this
  ·cases hl
 ·rename_i hg
  have hlt := (Array.getElem?_eq_some_iff.1 hl).1
  have := hc.2 o hlt
  have hlt' : o < c'.size := by omega
  refine ⟨c'[o], by simp [part, run_isAgg' hg, hlt'], ?_⟩
  simpa [hl, hlt'] using this
 ·cases hl
def afieldOf (P : Program) (t : TypeId) (x : Value) (f : Nat) : Option Value :=
 match P.underlying t, x with
 | some (.struct fs), .agg c => match fs[f]? with
  | some fd => apart_ P fd.type c fd.offset
  | none => none
 | _, _ => none
theorem afieldOf_ok {t : TypeId} {x x' v : Value} {f : Nat} (hx : Rel R x x') (hl : afieldOf P t x f = some v) : ∃ v', (Instr.field t x' f).run P w = .ok v' w ∧ Rel R v v' := by
 unfold afieldOf at hl
 split at hl
 ·rename_i fs c hu
  cases hx with
  | agg _ c' h1 h2 =>
  split at hl
  ·rename_i fd hf
   obtain ⟨v', k1, k2⟩ := apart_ok (w := w) ⟨h1, h2⟩ hl
   exact ⟨v', by simp [Instr.field, run_underlying hu, hf, asAgg, k1], k2⟩
  ·cases hl
 ·cases hl
def aindexOf (P : Program) (t : TypeId) (x ix : Value) : Option Value :=
 match P.underlying t, x, ix with
 | some (.array len e), .agg c, .int _ k => match szB P e with
  | some s => if 0 ≤ k ∧ k < len then apart_ P e c (k.toNat * s) else none
  | none => none
 | _, _, _ => none
theorem aindexOf_ok {t : TypeId} {x x' ix v : Value} (hx : Rel R x x') (hl : aindexOf P t x ix = some v) : ∃ v', (Instr.index t x' ix).run P w = .ok v' w ∧ Rel R v v' := by
 unfold aindexOf at hl
 split at hl
 ·rename_i len e c kk k hu
  cases hx with
  | agg _ c' h1 h2 =>
  split at hl
  ·rename_i s hs
   split at hl
   ·rename_i hk
    obtain ⟨v', k1, k2⟩ := apart_ok (w := w) ⟨h1, h2⟩ hl
    exact ⟨v', by simp [Instr.index, asIntOf, run_underlying hu, hk, run_sizeOf' hs, k1], k2⟩
   ·cases hl
  ·cases hl
 ·cases hl
theorem foldl_set_rels : ∀ (l l' : List Value) (k off : Nat) (c c' : Array Value), RelL R l l' → Rels R c c' →
  Rels R ((l.zipIdx k).foldl (fun cs (x, j) => cs.setIfInBounds (off + j) x) c) ((l'.zipIdx k).foldl (fun cs (x, j) => cs.setIfInBounds (off + j) x) c')
 | [], [], _, _, _, _, _, hc => hc
 | [], _ :: _, _, _, _, _, hl, _ => by have := hl.1; simp at this
 | _ :: _, [], _, _, _, _, hl, _ => by have := hl.1; simp at this
 | v :: l, v' :: l', k, off, c, c', hl, hc => by
  simp only [List.zipIdx_cons, List.foldl_cons]
  refine foldl_set_rels l l' (k + 1) off _ _ ⟨by simpa using hl.1, fun j u hj => hl.2 (j + 1) u (by simpa using hj)⟩ (hc.set _ ?_)
  obtain ⟨u, h1, h2⟩ := hl.2 0 v rfl
  simp at h1; subst h1; exact h2
theorem fill_rels (place : Nat → Option (Nat × Nat)) : ∀ (parts parts' : List (Nat × Value)) (c c' r : Array Value), Rels R c c' → parts.map (·.1) = parts'.map (·.1) →
  (∀ (j : Nat) (x y : Nat × Value), parts[j]? = some x → parts'[j]? = some y → Rel R x.2 y.2) → Instr.fill place c parts = some r → ∃ r', Instr.fill place c' parts' = some r' ∧ Rels R r r'
 | [], [], c, c', r, hc, _, _, h => by simp [Instr.fill] at h ⊢; subst h; exact hc
 | [], _ :: _, _, _, _, _, hm, _, _ => by simp at hm
 | _ :: _, [], _, _, _, _, hm, _, _ => by simp at hm
 | (i, v) :: rest, (i', v') :: rest', c, c', r, hc, hm, hv, h => by
  simp at hm
  obtain ⟨rfl, hm⟩ := hm
  have hvv := hv 0 (i, v) (i, v') rfl rfl
  have hcc := Rel.cells hvv
  simp only [Instr.fill] at h ⊢
  cases hp : place i with
  | none => rw [hp] at h; cases h
  | some q =>
   obtain ⟨off, size⟩ := q
   rw [hp] at h
   simp only at h ⊢
   have e1 := hcc.1
   have e2 := hc.1
   simp only at e1
   rw [← e1, ← e2]
   split at h
   ·cases h
   ·rename_i hcond
    rw [if_neg hcond]
    refine fill_rels place rest rest' _ _ r ?_ hm (fun j x y hx hy => hv (j + 1) x y (by simpa using hx) (by simpa using hy)) h
    have := foldl_set_rels (R := R) v.cells.toList v'.cells.toList 0 off c c' hcc.relL hc
    rw [← Array.foldl_toList, ← Array.foldl_toList]
    simpa using this
def abuild (P : Program) (t : TypeId) (parts : List (Nat × Value)) : Option Value :=
 match zeroB P t with
 | some _ => (P.built t parts).map .agg
 | none => none
theorem abuild_ok {t : TypeId} {parts parts' : Array (Nat × Value)} {v : Value} (hm : parts.toList.map (·.1) = parts'.toList.map (·.1))
  (hv : ∀ (j : Nat) (x y : Nat × Value), parts.toList[j]? = some x → parts'.toList[j]? = some y → Rel R x.2 y.2) (hl : abuild P t parts.toList = some v) :
  ∃ v', (Instr.build t parts').run P w = .ok v' w ∧ Rel R v v' := by
 unfold abuild at hl
 split at hl
 ·rename_i zc hz
  obtain ⟨hg, i, z, hi, hzz, hzc, _⟩ := zeroB_run hz
  have hzr : Rels R z.cells z.cells := by
   have := (g0one_rel (R := R) hg).1.rels
   rw [hzc]; simpa using this
  cases hb : P.built t parts.toList with
  | none => simp [hb] at hl
  | some r =>
   simp [hb] at hl
   subst hl
   have : ∃ r', P.built t parts'.toList = some r' ∧ Rels R r r' := by
    unfold Program.built at hb ⊢
    rw [hi] at hb ⊢
    split at hb
    ·rename_i it _ e h1 h2
     injection h1 with h1
     subst h1
     rw [hzz] at hb ⊢
     split at hb
     ·rename_i z' ie q1 q2
      injection q1 with q1
      subst q1
      exact fill_rels _ _ _ _ _ _ hzr hm hv hb
     ·cases hb
    ·rename_i it _ fs h1 h2
     injection h1 with h1
     subst h1
     rw [hzz] at hb ⊢
     split at hb
     ·rename_i z' pl q1 q2
      injection q1 with q1
      subst q1
      exact fill_rels _ _ _ _ _ _ hzr hm hv hb
     ·cases hb
    ·cases hb
   obtain ⟨r', h1, h2⟩ := this
   exact ⟨.agg r', run_build w t parts' r' h1, .agg _ _ h2.1 h2.2⟩
 ·cases hl
end
section
variable {P : Program} {base : Nat} {R : Pl} {m : AM} {w : World} {n : Nat}
def acells (m : AM) (size k : Nat) : Value → Option (List Value)
 | .slice none _ _ => if k = 0 then some [] else none
 | .slice (some ⟨i, o, none⟩) l _ =>
  if k = 0 then some [] else
  match m[i]? with
  | some (some b) => if k ≤ l ∧ o + k * size ≤ b.cells.length then some ((b.cells.drop o).take (k * size)) else none
  | _ => none
 | .slice (some ⟨_, _, some _⟩) _ _ => if k = 0 then some [] else none
 | _ => none
theorem run_firstCells_zero (size : Nat) (a : Option Addr) (l c : Nat) (w : World) : (Builtin.firstCells size 0 (.slice a l c)).run P w = .ok #[] w := by
 cases a <;> simp [Builtin.firstCells, loadCells, loadCellsFrom]
theorem acells_ok (h : MRep base R m w) {x x' : Value} {size k : Nat} {l : List Value} (hx : Rel R x x') (hl : acells m size k x = some l) :
  ∃ l', RelL R l l' ∧ (Builtin.firstCells size k x').run P w = .ok l'.toArray w := by
 unfold acells at hl
 split at hl
 ·cases hx with
  | sliceNil =>
   split at hl
   ·rename_i hk; subst hk
    injection hl with hl; subst hl
    exact ⟨[], .nil, run_firstCells_zero _ _ _ _ _⟩
   ·cases hl
 ·rename_i i o ll c
  cases hx with
  | slice _ _ _ _ p hp hle =>
  split at hl
  ·rename_i hk; subst hk
   injection hl with hl; subst hl
   exact ⟨[], .nil, run_firstCells_zero _ _ _ _ _⟩
  ·split at hl
   ·rename_i b hb
    split at hl
    ·rename_i hc
     injection hl with hl; subst hl
     obtain ⟨l', h1, h2⟩ := (h.of hb hp).cells o (k * size) hc.2
     have hlen : l'.length = k * size := by rw [← h1.1]; simp; omega
     have h3 := run_loadCells_list (P := P) w _ l' h2
     rw [hlen] at h3
     exact ⟨l', h1, by simpa [Builtin.firstCells] using h3⟩
    ·cases hl
   ·cases hl
 ·cases hx with
  | sliceSpot _ _ _ p hp =>
   split at hl
   ·rename_i hk; subst hk
    injection hl with hl; subst hl
    exact ⟨[], .nil, run_firstCells_zero _ _ _ _ _⟩
   ·cases hl
 ·cases hl
def aSliceLen : Value → Option Nat
 | .slice none _ _ => some 0
 | .slice (some _) l _ => some l
 | _ => none
theorem aSliceLen_ok {x x' : Value} {k : Nat} (hx : Rel R x x') (h : aSliceLen x = some k) : ∀ w, (Builtin.lenOf x').run P w = .ok k w := by
 unfold aSliceLen at h
 split at h
 ·cases hx with | sliceNil => injection h with h; subst h; intro w; rfl
 ·cases hx with
  | slice _ _ _ _ p hp => injection h with h; subst h; intro w; rfl
  | sliceSpot _ _ _ p hp => injection h with h; subst h; intro w; rfl
 ·cases h
def alen (P : Program) (t : TypeId) (x : Value) : Option Value :=
 match P.underlying t with
 | some (.slice _) => (aSliceLen x).map fun k => .int .i64 k
 | _ => none
theorem alen_ok {t ty : TypeId} {x x' v : Value} (hx : Rel R x x') (hl : alen P t x = some v) : (Builtin.len_ #[t] ty #[x']).run P w = .ok v w := by
 unfold alen at hl
 split at hl
 ·rename_i e hu
  cases hs : aSliceLen x with
  | none => simp [hs] at hl
  | some k =>
   simp [hs] at hl
   subst hl
   unfold aSliceLen at hs
   split at hs
   ·cases hx with | sliceNil => injection hs with hs; subst hs; simp [Builtin.len_, run_underlying hu, goInt]
   ·cases hx with
    | slice _ _ _ _ p hp => injection hs with hs; subst hs; simp [Builtin.len_, run_underlying hu, goInt]
    | sliceSpot _ _ _ p hp => injection hs with hs; subst hs; simp [Builtin.len_, run_underlying hu, goInt]
   ·cases hs
 ·cases hl
def elemB (P : Program) (t : TypeId) : Option (TypeId × Nat × Nat × Array Value) :=
 match P.underlying t with
 | some (.slice e) => match P.info? e, zeroB P e with
  | some i, some z => if z.size == i.size then some (e, i.size, i.bytes, z) else none
  | _, _ => none
 | _ => none
theorem elemB_spec {t e : TypeId} {size bytes : Nat} {zc : Array Value} (h : elemB P t = some (e, size, bytes, zc)) :
  P.underlying t = some (.slice e) ∧ ∃ i z, P.info? e = some i ∧ i.size = size ∧ i.bytes = bytes ∧ i.zero = some z ∧ z.cells = zc ∧ zc.size = size ∧ g0one zc = true := by
 unfold elemB at h
 split at h
 ·rename_i e' hu
  split at h
  ·rename_i i z hi hz
   split at h
   ·rename_i hs
    simp only [Option.some.injEq, Prod.mk.injEq] at h
    obtain ⟨rfl, rfl, rfl, rfl⟩ := h
    obtain ⟨hg, i', z', h1, h2, h3, _⟩ := zeroB_run hz
    rw [hi] at h1; injection h1 with h1; subst h1
    exact ⟨hu, i, z', hi, rfl, rfl, h2, h3, by simpa using hs, hg⟩
   ·cases h
  ·cases h
 ·cases h
theorem relL_zeros {zc : Array Value} (h : g0one zc = true) (k : Nat) : RelL R (Builtin.zeroCells zc k).toList (Builtin.zeroCells zc k).toList ∧ ∀ v ∈ (Builtin.zeroCells zc k).toList, v.oneCell' = true := by
 have hm : ∀ v ∈ (Builtin.zeroCells zc k).toList, g0 v = true ∧ v.oneCell' = true := by
  intro v hv
  simp [Builtin.zeroCells] at hv
  obtain ⟨i, hi, rfl⟩ := hv
  have hpos : 0 < zc.size := by
   rcases Nat.eq_zero_or_pos zc.size with h0 | h0
   ·rw [h0] at hi; simp at hi
   ·exact h0
  have hlt : i % zc.size < zc.size := Nat.mod_lt _ hpos
  have := Array.all_eq_true.1 h (i % zc.size) hlt
  simp only [Bool.and_eq_true] at this
  simpa [hlt] using this
 exact ⟨⟨rfl, fun j v hj => ⟨v, hj, g0_rel (hm v (List.mem_of_getElem? hj)).1⟩⟩, fun v hv => (hm v hv).2⟩
theorem relL_made {zc : Array Value} (h : g0one zc = true) (k : Nat) (hk : zc.size = 0 → k = 0) :
  RelL R (madeCells zc k).toList (madeCells zc k).toList ∧ ∀ v ∈ (madeCells zc k).toList, v.oneCell' = true := by
 have hm : ∀ v ∈ (madeCells zc k).toList, g0 v = true ∧ v.oneCell' = true := by
  intro v hv
  simp [madeCells] at hv
  obtain ⟨i, hi, rfl⟩ := hv
  have hpos : 0 < zc.size := by
   rcases Nat.eq_zero_or_pos zc.size with h0 | h0
   ·rw [hk h0] at hi; simp at hi
   ·exact h0
  have hlt : i % zc.size < zc.size := Nat.mod_lt _ hpos
  have := Array.all_eq_true.1 h (i % zc.size) hlt
  simp only [Bool.and_eq_true] at this
  simpa [hlt] using this
 exact ⟨⟨rfl, fun j v hj => ⟨v, hj, g0_rel (hm v (List.mem_of_getElem? hj)).1⟩⟩, fun v hv => (hm v hv).2⟩
def amake (P : Program) (m : AM) (n : Nat) (t : TypeId) (l c : Value) : Option (Value × AM) :=
 match l, c, elemB P t with
 | .int _ l, .int _ c, some (_, size, bytes, z) =>
  if 0 ≤ l ∧ l ≤ c ∧ bytes * c ≤ 281474976710656 ∧ c ≤ 9223372036854775807 ∧ size ≠ 0 then
   some (.slice (some ⟨n, 0, none⟩) l.toNat c.toNat, m.set n (some { cells := (madeCells z (c.toNat * size)).toList })) else none
 | _, _, _ => none
theorem amake_ok (h : MRep base R m w) (hbase : base ≤ w.heap.size) (hfree : m[n]? = some none) (hR : R n = none) {t : TypeId} {l c l' c' v : Value} {m' : AM} (hl : Rel R l l') (hc : Rel R c c') (he : amake P m n t l c = some (v, m'))
  {s : Sem Next} (hs : ∀ v w', (Instr.makeSlice t l' c').run P w = .ok v w' → s.run P w = .ok (.value v) w') : Does P base R m n w s v m' := by
 unfold amake at he
 split at he
 ·rename_i _ _ _ k l k' c e size bytes z hE
  cases hl with | int =>
  cases hc with | int =>
  split at he
  ·rename_i hcond
   obtain ⟨c1, c2, c3, c4, c5⟩ := hcond
   simp only [Option.some.injEq, Prod.mk.injEq] at he
   obtain ⟨rfl, rfl⟩ := he
   obtain ⟨hu, i, zz, h1, h2, h3, h4, h5, h6, h7⟩ := elemB_spec hE
   have hr := run_make (P := P) w t e i zz hu h1 h4 k k' l c c1 c2 (by rw [h3]; exact c3) c4
   rw [h2, h5] at hr
   obtain ⟨q1, q2⟩ := relL_made (R := R) h7 (c.toNat * size) (fun h0 => by omega)
   refine set_new h hbase hfree hR e q1 q2 (hs _ _ hr) ?_
   have := Rel.slice (R := R.put n ⟨w.heap.size, 0, 0⟩) n 0 l.toNat c.toNat ⟨w.heap.size, 0, 0⟩ (Pl.put_same _ _ _) (by omega)
   simpa using this
  ·cases he
 ·cases he
def abuildSlice (P : Program) (m : AM) (n : Nat) (t : TypeId) (len : Nat) (parts : List (Nat × Value)) : Option (Value × AM) :=
 match elemB P t with
 | some (_, size, _, z) =>
  if len = 0 ∧ parts.isEmpty then some (.slice (some ⟨n, 0, none⟩) 0 0, m.set n (some { cells := [] })) else
  if len * size ≤ 2 ^ 24 ∧ len * size ≠ 0 then
   match Instr.fill (fun i => some (i * size, size)) ((Array.range (len * size)).map (z[· % z.size]!)) parts with
   | some cells => if cells.all (·.oneCell') then some (.slice (some ⟨n, 0, none⟩) len len, m.set n (some { cells := cells.toList })) else none
   | none => none
  else none
 | none => none
theorem abuildSlice_ok (h : MRep base R m w) (hbase : base ≤ w.heap.size) (hfree : m[n]? = some none) (hR : R n = none) {t : TypeId} {len : Nat} {parts parts' : Array (Nat × Value)} {v : Value} {m' : AM}
  (hm : parts.toList.map (·.1) = parts'.toList.map (·.1)) (hv : ∀ (j : Nat) (x y : Nat × Value), parts.toList[j]? = some x → parts'.toList[j]? = some y → Rel R x.2 y.2)
  (he : abuildSlice P m n t len parts.toList = some (v, m')) {s : Sem Next} (hs : ∀ v w', (Instr.buildSlice t len parts').run P w = .ok v w' → s.run P w = .ok (.value v) w') : Does P base R m n w s v m' := by
 unfold abuildSlice at he
 split at he
 ·rename_i e size bytes z hE
  split at he
  ·rename_i hcond
   obtain ⟨rfl, hemp⟩ := hcond
   simp only [Option.some.injEq, Prod.mk.injEq] at he
   obtain ⟨rfl, rfl⟩ := he
   obtain ⟨hu, i, zz, h1, h2, h3, h4, h5, h6, h7⟩ := elemB_spec hE
   have hp0 : parts'.toList = [] := by
    have e0 : parts.toList = [] := by simpa using hemp
    rw [e0] at hm
    simpa using hm.symm
   refine set_new h hbase hfree hR e (l := []) (c' := #[]) .nil (by simp) (hs (.slice (some ⟨w.heap.size, 0, none⟩) 0 0) _ ?_) ?_
   ·simp [Instr.buildSlice, run_underlying hu, sizeOf, typeInfo, h1, hp0, Instr.fill, newRow, show Array.range 0 = #[] by apply Array.ext'; simp]
   ·have := Rel.slice (R := R.put n ⟨w.heap.size, 0, 0⟩) n 0 0 0 ⟨w.heap.size, 0, 0⟩ (Pl.put_same _ _ _) (Nat.le_refl _)
    simpa using this
  split at he
  ·rename_i hcond
   split at he
   ·rename_i cells hf
    split at he
    ·rename_i hone
     simp only [Option.some.injEq, Prod.mk.injEq] at he
     obtain ⟨rfl, rfl⟩ := he
     obtain ⟨hu, i, zz, h1, h2, h3, h4, h5, h6, h7⟩ := elemB_spec hE
     have hz0 : Rels R (madeCells z (len * size)) (madeCells z (len * size)) := by
      have := (relL_made (R := R) h7 (len * size) (fun h0 => by rw [h6] at h0; rw [h0] at hcond; simp at hcond)).1.rels
      simpa using this
     obtain ⟨r', k1, k2⟩ := fill_rels (R := R) _ _ _ _ _ _ hz0 hm hv hf
     subst h5
     subst h2
     have hr := run_buildSlice (P := P) w t e len parts' r' i zz hu h1 h4 (by omega) hcond.2 k1
     refine set_new h hbase hfree hR e k2.relL (allOne hone) (hs _ _ hr) ?_
     have := Rel.slice (R := R.put n ⟨w.heap.size, 0, 0⟩) n 0 len len ⟨w.heap.size, 0, 0⟩ (Pl.put_same _ _ _) (Nat.le_refl _)
     simpa using this
    ·cases he
   ·cases he
  ·cases he
 ·cases he
def acopy (P : Program) (m : AM) (t : TypeId) (d x : Value) : Option (Value × AM) :=
 match elemB P t, d, aSliceLen x with
 | some (_, size, _, _), .slice (some ⟨i, o, none⟩) dl _, some xl =>
  match m[i]?, acells m size (Nat.min xl dl) x with
  | some (some b), some l => if b.kind.solid && decide (o + l.length ≤ b.cells.length) && l.all (·.oneCell') then some (.int .i64 (Nat.min xl dl), m.set i (some { b with cells := splice b.cells o l })) else none
  | _, _ => none
 | _, _, _ => none
theorem acopy_ok (h : MRep base R m w) {t tx ty : TypeId} {d d' x x' v : Value} {m' : AM} (hd : Rel R d d') (hx : Rel R x x') (he : acopy P m t d x = some (v, m')) :
  ∃ w', (Builtin.copy_ #[t, tx] ty #[d', x']).run P w = .ok v w' ∧ Post base m m' R R w w' := by
 unfold acopy at he
 split at he
 ·rename_i e size bytes z i o dl c xl hE hxl
  cases hd with
  | slice _ _ _ _ p hp hle =>
  split at he
  ·rename_i b l hb hl
   split at he
   ·rename_i hcond
    simp only [Option.some.injEq, Prod.mk.injEq] at he
    obtain ⟨rfl, rfl⟩ := he
    simp only [Bool.and_eq_true, decide_eq_true_eq] at hcond
    obtain ⟨⟨c1, c2⟩, c3⟩ := hcond
    obtain ⟨hu, i', zz, h1, h2, _⟩ := elemB_spec hE
    obtain ⟨l', k1, k2⟩ := acells_ok (P := P) h hx hl
    obtain ⟨w', q1, q2⟩ := write_ok (P := P) h hb c1 hp k1 (by simpa using c3) c2
    refine ⟨w', ?_, q2⟩
    subst h2
    have hlen := aSliceLen_ok (P := P) hx hxl w
    simp only [Nat.min_def] at k2 ⊢
    simp [Builtin.copy_, run_underlying hu, hlen, sizeOf, typeInfo, h1, Nat.min_def, k2, q1, goInt]
   ·cases he
  ·cases he
 ·cases he
def aclear (P : Program) (m : AM) (t : TypeId) (x : Value) : Option (Value × AM) :=
 match elemB P t, x with
 | some _, .slice none _ _ => some (.tuple #[], m)
 | some (_, size, _, z), .slice (some ⟨i, o, none⟩) l _ =>
  if l = 0 then some (.tuple #[], m) else
  match m[i]? with
  | some (some b) => if b.kind.solid && decide (o + l * size ≤ b.cells.length) then some (.tuple #[], m.set i (some { b with cells := splice b.cells o (Builtin.zeroCells z l).toList })) else none
  | _ => none
 | _, _ => none
theorem aclear_ok (h : MRep base R m w) {t ty : TypeId} {x x' v : Value} {m' : AM} (hx : Rel R x x') (he : aclear P m t x = some (v, m')) :
  ∃ w', (Builtin.clear_ #[t] ty #[x']).run P w = .ok v w' ∧ Post base m m' R R w w' := by
 unfold aclear at he
 split at he
 ·rename_i q _ _ hE
  obtain ⟨e, size, bytes, z⟩ := q
  obtain ⟨hu, i', zz, h1, h2, _⟩ := elemB_spec hE
  have hx' : x' = .slice none 0 0 := by cases hx; rfl
  subst hx'
  simp only [Option.some.injEq, Prod.mk.injEq] at he
  obtain ⟨rfl, rfl⟩ := he
  exact ⟨w, by simp [Builtin.clear_, run_underlying hu], .refl h⟩
 ·rename_i e size bytes z i o l c hE
  obtain ⟨hu, i', zz, h1, h2, h3, h4, h5, h6, h7⟩ := elemB_spec hE
  cases hx with
  | slice _ _ _ _ p hp hle =>
  split at he
  ·rename_i hl0
   subst hl0
   simp only [Option.some.injEq, Prod.mk.injEq] at he
   obtain ⟨rfl, rfl⟩ := he
   exact ⟨w, by simp [Builtin.clear_, run_underlying hu], .refl h⟩
  ·rename_i hl0
   split at he
   ·rename_i b hb
    split at he
    ·rename_i hcond
     simp only [Option.some.injEq, Prod.mk.injEq] at he
     obtain ⟨rfl, rfl⟩ := he
     simp only [Bool.and_eq_true, decide_eq_true_eq] at hcond
     obtain ⟨c1, c2⟩ := hcond
     obtain ⟨r1, r2⟩ := relL_zeros (R := R) h7 l
     obtain ⟨w', q1, q2⟩ := write_ok (P := P) h hb c1 hp (o := o) r1 r2 (by simp [Builtin.zeroCells, h6]; exact c2)
     refine ⟨w', ?_, q2⟩
     simp [Builtin.clear_, run_underlying hu, zeroValue, typeInfo, h1, h4, h5, q1]
    ·cases he
   ·cases he
 ·cases he
end
section
variable {P : Program} {base : Nat} {R : Pl} {m : AM} {w : World} {n : Nat}
theorem MRep.move {w' : World} (h : MRep base R m w) {i : Nat} {b : Blk} (hi : m[i]? = some (some b)) (hk : b.kind.mine = true) {p : Place} (hp : R i = some p) (hfree : m[n]? = some none) (hR : R n = none) (c : Blk) (q : Place)
  (hc : BRep base R c q w') (hqp : q.block = p.block) (hck : c.kind ≠ .edge) (hw : ∀ k, k ≠ p.block → w'.heap[k]? = w.heap[k]?) (hsz : w'.heap.size = w.heap.size) :
  R.le (R.put n q) ∧ MRep base (R.put n q) ((m.set i none).set n (some c)) w' := by
 have hle := Pl.le_put R n q hR
 have hni : n ≠ i := fun e => by rw [e, hi] at hfree; cases hfree
 have hn : n < m.length := (List.getElem?_eq_some_iff.1 hfree).1
 have hl : i < m.length := (List.getElem?_eq_some_iff.1 hi).1
 have old : ∀ (j : Nat) (d : Blk), ((m.set i none).set n (some c))[j]? = some (some d) → j ≠ n → j ≠ i ∧ m[j]? = some (some d) := by
  intro j d hj hne
  rw [List.getElem?_set_ne (fun e => hne e.symm)] at hj
  by_cases e : j = i
  ·subst e
   rw [List.getElem?_set_self hl] at hj
   injection hj with hj; cases hj
  ·rw [List.getElem?_set_ne (fun x => e x.symm)] at hj
   exact ⟨e, hj⟩
 have hnew : ∀ (d : Blk), ((m.set i none).set n (some c))[n]? = some (some d) → d = c := by
  intro d hj
  rw [List.getElem?_set_self (by simpa using hn)] at hj
  injection hj with hj; injection hj with hj; exact hj.symm
 refine ⟨hle, fun j hj => ?_, fun j d hj => ?_, fun j k d e r r' hj hk' hdo heo hjk hr hr' => ?_⟩
 ·simp at hj
  rw [Pl.put_other _ _ (by omega)]; exact h.none_ j hj
 ·by_cases hne : j = n
  ·subst hne
   have := hnew d hj
   subst this
   exact ⟨q, Pl.put_same _ _ _, hc.mono hle⟩
  ·obtain ⟨e1, e2⟩ := old j d hj hne
   obtain ⟨r, h1, h2⟩ := h.rep j d e2
   refine ⟨r, hle _ _ h1, BRep.mono ?_ hle⟩
   by_cases hr : d.kind = .edge
   ·obtain ⟨z1, z2⟩ := h2
    refine ⟨by rw [hsz]; exact z1, ?_⟩
    rw [hr] at z2 ⊢
    exact z2
   ·exact h2.kept (hw _ (fun e => h.apart i j b d p r hi e2 hk hr (fun x => e1 x.symm) hp h1 e.symm))
 ·by_cases h1 : j = n
  ·subst h1
   have h2 : k ≠ j := fun e => hjk e.symm
   obtain ⟨e1, e2⟩ := old k e hk' h2
   rw [Pl.put_same] at hr
   injection hr with hr
   subst hr
   rw [Pl.put_other _ _ h2] at hr'
   rw [hqp]
   exact h.apart i k b e p r' hi e2 hk heo (fun x => e1 x.symm) hp hr'
  ·obtain ⟨e1, e2⟩ := old j d hj h1
   rw [Pl.put_other _ _ h1] at hr
   by_cases h2 : k = n
   ·subst h2
    rw [Pl.put_same] at hr'
    injection hr' with hr'
    subst hr'
    rw [hqp]
    exact h.apart j i d b r p e2 hi hdo (by intro x; rw [x] at hk; cases hk) e1 hr hp
   ·obtain ⟨e3, e4⟩ := old k e hk' h2
    rw [Pl.put_other _ _ h2] at hr'
    exact h.apart j k d e r r' e2 e4 hdo heo hjk hr hr'
theorem Owned.drop {i k : Nat} (h : Owned (m.set i none) R k) : Owned m R k := by
 obtain ⟨j, b, p, h1, h2⟩ := h
 refine ⟨j, b, p, ?_, h2⟩
 by_cases e : i = j
 ·subst e
  rw [List.getElem?_set] at h1
  split at h1
  ·split at h1 <;> cases h1
  ·exact h1
 ·rwa [List.getElem?_set_ne e] at h1
theorem Owned.of_put {k : Nat} {c : Blk} {q : Place} (h : Owned (m.set n (some c)) (R.put n q) k) : k = q.block ∨ Owned m R k := by
 obtain ⟨j, b, p, h1, h2, h3, h4⟩ := h
 by_cases e : j = n
 ·subst e
  rw [Pl.put_same] at h3
  injection h3 with h3
  subst h3
  exact .inl h4.symm
 ·rw [List.getElem?_set_ne (fun x => e x.symm)] at h1
  rw [Pl.put_other _ _ e] at h3
  exact .inr ⟨j, b, p, h1, h2, h3, h4⟩
theorem grown_ok (h : MRep base R m w) (hbase : base ≤ w.heap.size) {m0 : AM} (hm0 : m0 = m ∨ ∃ i, i ≠ n ∧ m0 = m.set i none) (hfree : m[n]? = some none) (hR : R n = none) (c : Blk) (hck : c.kind = .grow) (x : Nat) (cur : Array Value) (ty : TypeId)
  (hsz : c.cells.length + x * c.size ≤ cur.size) (hcells : ∀ (j : Nat) (v : Value), c.cells[j]? = some v → ∃ v', cur[j]? = some v' ∧ Rel R v v' ∧ v'.oneCell' = true) :
  Post base m (m0.set n (some c)) R (R.put n ⟨w.heap.size, 0, x⟩) w (w.drew.alloc (.cells cur ty)) := by
 have hb : Below w.heap.size w (w.drew.alloc (.cells cur ty)) := ((Below.refl _ _).drew).alloc (Nat.le_refl _) _
 have hn : n < m.length := (List.getElem?_eq_some_iff.1 hfree).1
 have h0 : MRep base R m0 w := by
  rcases hm0 with rfl | ⟨i, _, rfl⟩
  ·exact h
  ·exact h.drop i
 have hl0 : m0.length = m.length := by
  rcases hm0 with rfl | ⟨i, _, rfl⟩ <;> simp
 have hf0 : m0[n]? = some none := by
  rcases hm0 with rfl | ⟨i, hi, rfl⟩
  ·exact hfree
  ·rwa [List.getElem?_set_ne hi]
 obtain ⟨k1, k2⟩ := h0.put (w' := w.drew.alloc (.cells cur ty)) n (by omega) hf0 hR c ⟨w.heap.size, 0, x⟩ hb.block rfl (by
  refine ⟨by simp, ?_⟩
  rw [hck]
  exact ⟨cur, ty, heap_alloc_new w.drew _, hbase, by simpa using hsz, (fun e => nomatch e), fun j v hj => by simpa using hcells j v hj⟩)
 refine ⟨k1, k2, rfl, rfl, rfl, hb.size, fun k hk _ => hb.block k hk, fun k ho => ?_⟩
 rcases ho.of_put with e | e
 ·exact .inl (by rw [e]; exact Nat.le_refl _)
 ·refine .inr ?_
  rcases hm0 with rfl | ⟨i, _, rfl⟩
  ·exact e
  ·exact e.drop
def aappend (P : Program) (m : AM) (n : Nat) (t tx : TypeId) (s x : Value) : Option (Value × AM) :=
 match elemB P t, P.underlying tx, aSliceLen x with
 | some (_, size, bytes, _), some (.slice _), some xl =>
  match acells m size xl x with
  | some news =>
   if !(news.all (·.oneCell')) || size == 0 then none else
   match s with
   | .slice none 0 0 =>
    if xl = 0 then some (s, m) else
    if xl * bytes ≤ 1099511627776 ∧ xl ≤ 1099511627776 then some (.slice (some ⟨n, 0, none⟩) xl xl, m.set n (some { cells := news, kind := .grow, size := size })) else none
   | .slice (some ⟨i, o, none⟩) sl sc =>
    if xl = 0 then some (.slice (some ⟨i, o, none⟩) sl sc, m) else
    match m[i]? with
    | some (some b) =>
     if sl + xl ≤ sc then
      if b.kind.solid && decide (o + sl * size + news.length ≤ b.cells.length) then some (.slice (some ⟨i, o, none⟩) (sl + xl) sc, m.set i (some { b with cells := splice b.cells (o + sl * size) news })) else none
     else if (sl + xl) * bytes ≤ 1099511627776 ∧ sl + xl ≤ 1099511627776 ∧ sl ≤ sc then
      match b.kind with
      | .grow => if o + sc * size = b.cells.length ∧ b.size = size then
        some (.slice (some ⟨n, 0, none⟩) (sl + xl) (sl + xl), (m.set i none).set n (some { cells := (b.cells.drop o).take (sl * size) ++ news, kind := .grow, size := size })) else none
      | .own => if o + sl * size ≤ b.cells.length then
        some (.slice (some ⟨n, 0, none⟩) (sl + xl) (sl + xl), m.set n (some { cells := (b.cells.drop o).take (sl * size) ++ news, kind := .grow, size := size })) else none
      | .edge => if sl = 0 then some (.slice (some ⟨n, 0, none⟩) xl xl, m.set n (some { cells := news, kind := .grow, size := size })) else none
      | .ro => none
      | .map => none
      | .rom => none
      | .str => none
     else none
    | _ => none
   | _ => none
  | none => none
 | _, _, _ => none
theorem slice_put {l x k c : Nat} (hc : c = l + x) : Rel (R.put n ⟨k, 0, x⟩) (.slice (some ⟨n, 0, none⟩) l l) (.slice (some ⟨k, 0, none⟩) l c) := by
 have := Rel.slice (R := R.put n ⟨k, 0, x⟩) n 0 l l ⟨k, 0, x⟩ (Pl.put_same _ _ _) (Nat.le_refl _)
 subst hc
 simpa using this
theorem append_grows (h : MRep base R m w) (hbase : base ≤ w.heap.size) {m0 : AM} (hm0 : m0 = m ∨ ∃ i, i ≠ n ∧ m0 = m.set i none) (hfree : m[n]? = some none) (hR : R n = none) {t tx ty e : TypeId} {size bytes : Nat} {z : Array Value}
  (hE : elemB P t = some (e, size, bytes, z)) (hs0 : size ≠ 0) {base' : Option Addr} {sl sc' xl : Nat} {olds olds' : List Value} (hold : RelL R olds olds') (holdl : olds.length = sl * size)
  (hrun : ∀ w2 : World, (∀ k : Nat, w2.heap[k]? = w.heap[k]?) → (Builtin.firstCells size sl (.slice base' sl sc')).run P w2 = .ok olds'.toArray w2) (holdone : ∀ v ∈ olds, v.oneCell' = true)
  {x' : Value} {news news' : List Value} (hs : Src P size tx x' xl news' w) (hnews : RelL R news news') (hnewsone : ∀ v ∈ news, v.oneCell' = true)
  (hgt : sc' < sl + xl) (hb1 : (sl + xl) * bytes ≤ 1099511627776) (hb2 : sl + xl ≤ 1099511627776) {s : Sem Next}
  (hsr : ∀ v w', (Builtin.append_ #[t, tx] ty #[.slice base' sl sc', x']).run P w = .ok v w' → s.run P w = .ok (.value v) w') :
  Does P base R m n w s (.slice (some ⟨n, 0, none⟩) (sl + xl) (sl + xl)) (m0.set n (some { cells := olds ++ news, kind := .grow, size := size })) := by
 obtain ⟨hu, i, zz, h1, h2, h3, h4, h5, h6, h7⟩ := elemB_spec hE
 subst h2
 have hcap := Go.Room.nextslicecap_le' (need := sl + xl) (old := sc') hgt
 have hfit : Builtin.nextslicecap (sl + xl) sc' * i.bytes ≤ 281474976710656 := by
  rw [h3]
  have : Builtin.nextslicecap (sl + xl) sc' * bytes ≤ 2 * (sl + xl) * bytes := Nat.mul_le_mul_right _ hcap
  rw [Nat.mul_assoc] at this
  omega
 have hr := run_append_grow_src (P := P) (w := w) t tx ty e i zz hu h1 h4 base' sl sc' olds' (hrun w.drew fun _ => rfl) x' xl news' hs hgt (by omega) hfit
 have hge := grownCap_ge w (sl + xl) sc' e
 have hnl := hs.newsLen
 have ho1 := hold.1
 have hn1 := hnews.1
 refine ⟨_, _, _, .inl (hsr _ _ hr), slice_put (n := n) (x := grownCap w (sl + xl) sc' e - (sl + xl)) (by omega), grown_ok h hbase hm0 hfree hR _ rfl _ _ e ?_ ?_, fun j hj => Pl.put_other _ _ hj⟩
 ·simp only [List.length_append, Array.size_append, List.size_toArray, size_zeroCells, h5, h6]
  omega
 ·intro j v hj
  obtain ⟨v', q1, q2⟩ := (hold.app hnews).2 j v hj
  have hlt : j < (olds' ++ news').length := (List.getElem?_eq_some_iff.1 q1).1
  refine ⟨v', ?_, q2, ?_⟩
  ·rw [Array.getElem?_append_left (by simpa using hlt)]
   simpa using q1
  ·rw [q2.one]
   rcases List.mem_append.1 (List.mem_of_getElem? hj) with hm | hm
   ·exact holdone v hm
   ·exact hnewsone v hm
theorem drew_cells {R : Pl} (h : MRep base R m w) {x x' : Value} {size k : Nat} {l : List Value} (hx : Rel R x x') (hl : acells m size k x = some l) :
  ∃ l', RelL R l l' ∧ (Builtin.firstCells size k x').run P w = .ok l'.toArray w ∧ (Builtin.firstCells size k x').run P w.drew = .ok l'.toArray w.drew := by
 obtain ⟨l1, a1, a2⟩ := acells_ok (P := P) h hx hl
 obtain ⟨l2, b1, b2⟩ := acells_ok (P := P) (Post.drew h).rep hx hl
 have : l1 = l2 := by
  apply List.ext_getElem?
  intro j
  by_cases hj : j < l.length
  ·obtain ⟨v1, c1, c2⟩ := a1.2 j l[j] (by simp [hj])
   obtain ⟨v2, d1, d2⟩ := b1.2 j l[j] (by simp [hj])
   rw [c1, d1, c2.fn _ d2]
  ·have := a1.1; have := b1.1
   rw [List.getElem?_eq_none (by omega), List.getElem?_eq_none (by omega)]
 subst this
 exact ⟨l1, a1, a2, b2⟩
theorem acells_length {x : Value} {size k : Nat} {l : List Value} (hl : acells m size k x = some l) : l.length = k * size := by
 unfold acells at hl
 split at hl
 ·split at hl
  ·rename_i hk; subst hk; injection hl with hl; subst hl; simp
  ·cases hl
 ·split at hl
  ·rename_i hk; subst hk; injection hl with hl; subst hl; simp
  ·split at hl
   ·split at hl
    ·injection hl with hl; subst hl; simp; omega
    ·cases hl
   ·cases hl
 ·split at hl
  ·rename_i hk; subst hk; injection hl with hl; subst hl; simp
  ·cases hl
 ·cases hl
theorem aappend_ok (h : MRep base R m w) (hbase : base ≤ w.heap.size) (hfree : m[n]? = some none) (hR : R n = none) {t tx ty : TypeId} {d d' x x' v : Value} {m' : AM} (hd : Rel R d d') (hx : Rel R x x')
  (he : aappend P m n t tx d x = some (v, m')) {s : Sem Next} (hsr : ∀ v w', (Builtin.append_ #[t, tx] ty #[d', x']).run P w = .ok v w' → s.run P w = .ok (.value v) w') : Does P base R m n w s v m' := by
 unfold aappend at he
 split at he
 ·rename_i e size bytes z e' xl hE htx hxl
  obtain ⟨hu, i0, zz, h1, h2, h3, h4, h5, h6, h7⟩ := elemB_spec hE
  split at he
  ·rename_i news hnews
   split at he
   ·cases he
   ·rename_i hc0
    simp only [Bool.or_eq_true, Bool.not_eq_true', beq_iff_eq, not_or, Bool.not_eq_false] at hc0
    obtain ⟨hone0, hs0⟩ := hc0
    have hone : ∀ v ∈ news, v.oneCell' = true := by simpa using hone0
    obtain ⟨news', r1, r2, r3⟩ := drew_cells (P := P) h hx hnews
    have hlen := aSliceLen_ok (P := P) hx hxl
    have hnl := acells_length hnews
    have hsrc : Src P size tx x' xl news' w := ⟨.inl ⟨e', htx⟩, hlen, r2, r3, by rw [← r1.1]; exact hnl, r1.one hone⟩
    split at he
    ·-- a nil slice
     have hd' : d' = .slice none 0 0 := by cases hd; rfl
     subst hd'
     split at he
     ·rename_i hx0
      subst hx0
      simp only [Option.some.injEq, Prod.mk.injEq] at he
      obtain ⟨rfl, rfl⟩ := he
      refine does_same h (.inl (hsr (.slice none 0 0) w ?_)) .sliceNil
      have hn0 : news' = [] := List.eq_nil_of_length_eq_zero (by rw [← r1.1, hnl]; simp)
      subst hn0
      subst h2
      simp [Builtin.append_, run_underlying hu, run_underlying htx, sizeOf, typeInfo, h1, hlen, r2]
     ·split at he
      ·rename_i hx0 hb
       simp only [Option.some.injEq, Prod.mk.injEq] at he
       obtain ⟨rfl, rfl⟩ := he
       have := append_grows (base' := none) (sl := 0) (sc' := 0) (olds := []) (olds' := []) h hbase (.inl rfl) hfree hR hE hs0 .nil (by simp) (fun w2 _ => by simp [Builtin.firstCells]) (by simp) hsrc r1 hone (by omega) (by simpa using hb.1) (by simpa using hb.2) hsr
       simpa using this
      ·cases he
    ·rename_i i o sl sc
     cases hd with
     | slice _ _ _ _ p hp hle =>
     split at he
     ·rename_i hx0
      subst hx0
      simp only [Option.some.injEq, Prod.mk.injEq] at he
      obtain ⟨rfl, rfl⟩ := he
      refine does_same h (.inl (hsr _ w ?_)) (.slice i o sl sc p hp hle)
      have hn0 : news' = [] := List.eq_nil_of_length_eq_zero (by rw [← r1.1, hnl]; simp)
      subst hn0
      subst h2
      have hroom : sl ≤ sc + p.extra := by omega
      simp [Builtin.append_, run_underlying hu, run_underlying htx, sizeOf, typeInfo, h1, hlen, r2, hroom, storeCells]
     ·rename_i hx0
      split at he
      ·rename_i b hb
       have hrep := h.of hb hp
       split at he
       ·rename_i hroom
        split at he
        ·rename_i hcond
         simp only [Option.some.injEq, Prod.mk.injEq] at he
         obtain ⟨rfl, rfl⟩ := he
         simp only [Bool.and_eq_true, decide_eq_true_eq] at hcond
         obtain ⟨w', q1, q2⟩ := write_ok (P := P) h hb hcond.1 hp r1 hone hcond.2
         refine ⟨R, _, w', .inl (hsr (.slice (some ⟨p.block, p.off + o, none⟩) (sl + xl) (sc + p.extra)) w' ?_), .slice i o (sl + xl) sc p hp hroom, q2, fun _ _ => rfl⟩
         subst h2
         have hroom' : sl + xl ≤ sc + p.extra := by omega
         rw [← Nat.add_assoc] at q1
         simp [Builtin.append_, run_underlying hu, run_underlying htx, sizeOf, typeInfo, h1, hlen, r2, hroom', Addr.add_lit, q1]
        ·cases he
       ·rename_i hroom
        split at he
        ·rename_i hcond
         obtain ⟨c1, c2, c3⟩ := hcond
         split at he
         ·-- a row that may have room
          rename_i hkind
          split at he
          ·rename_i hend
           obtain ⟨e1, e2⟩ := hend
           simp only [Option.some.injEq, Prod.mk.injEq] at he
           obtain ⟨rfl, rfl⟩ := he
           have hsl : sl * size ≤ sc * size := Nat.mul_le_mul_right _ c3
           obtain ⟨olds', o1, o2⟩ := hrep.cells o (sl * size) (by omega)
           have hni : i ≠ n := fun e => by rw [e, hfree] at hb; cases hb
           have hol : ((b.cells.drop o).take (sl * size)).length = sl * size := by simp; omega
           have hrep0 := hrep
           unfold BRep at hrep
           rw [hkind] at hrep
           obtain ⟨z0, cur, cty, z1, z2, z3, _, z5⟩ := hrep
           have holdone : ∀ v ∈ (b.cells.drop o).take (sl * size), v.oneCell' = true := by
            intro v hv
            have hv2 := List.mem_of_mem_drop (List.mem_of_mem_take hv)
            obtain ⟨j, hj⟩ := List.mem_iff_getElem?.1 hv2
            obtain ⟨v', y1, y2, y3⟩ := z5 j v hj
            rw [← y2.one]; exact y3
           by_cases hcr : sl + xl ≤ sc + p.extra
           ·-- there is room behind it
            have hxs : sl * size + xl * size ≤ sc * size + p.extra * size := by
             rw [← Nat.add_mul, ← Nat.add_mul]; exact Nat.mul_le_mul_right _ hcr
            have hn1 := r1.1
            have hst := run_storeCells_at P p.block (p.off + o + sl * size) cty news' 0 cur w z1 (by rw [e2] at z3; omega) (r1.one hone)
            simp only [Nat.add_zero] at hst
            have hrun : (Builtin.append_ #[t, tx] ty #[.slice (some ⟨p.block, p.off + o, none⟩) sl (sc + p.extra), x']).run P w = .ok (.slice (some ⟨p.block, p.off + o, none⟩) (sl + xl) (sc + p.extra))
              (w.setRow p.block (cur.toList.take (p.off + o + sl * size) ++ news' ++ cur.toList.drop (p.off + o + sl * size + news'.length)).toArray) := by
             subst h2
             simp [Builtin.append_, run_underlying hu, run_underlying htx, sizeOf, typeInfo, h1, hlen, r2, hcr, Addr.add_lit, hst]
            have hcells : ∀ (j : Nat) (v : Value), ((b.cells.drop o).take (sl * size) ++ news)[j]? = some v → ∃ v', (cur.toList.take (p.off + o + sl * size) ++ news' ++ cur.toList.drop (p.off + o + sl * size + news'.length)).toArray[p.off + o + j]? = some v' ∧ Rel R v v' ∧ v'.oneCell' = true := by
             intro j v hj
             simp only [List.getElem?_toArray]
             have hg := splice_get (l := cur.toList) (o := p.off + o + sl * size) (xs := news') (by simp; rw [e2] at z3; omega) (p.off + o + j)
             unfold splice at hg
             rw [hg]
             by_cases hj1 : j < sl * size
             ·rw [List.getElem?_append_left (by omega), List.getElem?_take, if_pos hj1, List.getElem?_drop] at hj
              rw [if_pos (by omega)]
              obtain ⟨v', y1, y2, y3⟩ := z5 _ v hj
              exact ⟨v', by simpa [Nat.add_assoc] using y1, y2, y3⟩
             ·rw [List.getElem?_append_right (by omega), hol] at hj
              have hjl := (List.getElem?_eq_some_iff.1 hj).1
              rw [if_neg (by omega), if_pos (by omega)]
              obtain ⟨v', y1, y2⟩ := r1.2 _ v hj
              refine ⟨v', by rw [← y1]; congr 1; omega, y2, ?_⟩
              rw [y2.one]; exact hone v (List.mem_of_getElem? hj)
            have hmv := h.move (n := n) (w' := w.setRow p.block (cur.toList.take (p.off + o + sl * size) ++ news' ++ cur.toList.drop (p.off + o + sl * size + news'.length)).toArray) hb (by rw [hkind]; rfl) hp hfree hR { cells := (b.cells.drop o).take (sl * size) ++ news, kind := .grow, size := size } ⟨p.block, p.off + o, sc + p.extra - (sl + xl)⟩
             (by
              refine ⟨by simpa [World.setRow] using z0, _, cty, setRow_heap w p.block cur _ cty (0, 0) z1, z2, ?_, (fun e => nomatch e), hcells⟩
              have hx2 : (sc + p.extra - (sl + xl)) * size = sc * size + p.extra * size - (sl * size + xl * size) := by rw [Nat.sub_mul, Nat.add_mul, Nat.add_mul]
              simp only [List.length_append, hol, List.size_toArray, List.length_take, List.length_drop, Array.length_toList, hx2]
              rw [e2] at z3
              omega)
             rfl (by simp) (fun k hne => by simp only [World.setRow, Array.getElem?_modify]; rw [if_neg (by omega)]) (by simp [World.setRow])
            refine ⟨_, _, _, .inl (hsr _ _ hrun), ?_, ⟨hmv.1, hmv.2, rfl, rfl, rfl, by simp [World.setRow], fun k hk ho => ?_, fun k ho => ?_⟩, fun j hj => Pl.put_other _ _ hj⟩
            ·have := Rel.slice (R := R.put n ⟨p.block, p.off + o, sc + p.extra - (sl + xl)⟩) n 0 (sl + xl) (sl + xl) ⟨p.block, p.off + o, sc + p.extra - (sl + xl)⟩ (Pl.put_same _ _ _) (Nat.le_refl _)
             rw [show sl + xl + (sc + p.extra - (sl + xl)) = sc + p.extra by omega] at this
             simpa using this
            ·simp only [World.setRow, Array.getElem?_modify]
             rw [if_neg (fun e => ho ⟨i, b, p, hb, by rw [hkind]; rfl, hp, e⟩)]
            ·rcases ho.of_put with e | e
             ·exact .inr ⟨i, b, p, hb, by rw [hkind]; rfl, hp, e.symm⟩
             ·exact .inr e.drop
           ·refine append_grows h hbase (.inr ⟨i, hni, rfl⟩) hfree hR hE hs0 o1 hol (fun w2 hw2 => ?_) holdone hsrc r1 hone (by omega) c1 c2 hsr
            have hl' : olds'.length = sl * size := by rw [← o1.1]; exact hol
            have h3 := run_loadCells_list (P := P) w2 _ olds' (fun j v hj => (World.cell?_of_block (w := w) (by rw [Addr.add_lit]; exact hw2 _)).trans (o2 j v hj))
            rw [hl'] at h3
            simpa [Builtin.firstCells] using h3
          ·cases he
         ·rename_i hkind
          split at he
          ·rename_i hend
           simp only [Option.some.injEq, Prod.mk.injEq] at he
           obtain ⟨rfl, rfl⟩ := he
           obtain ⟨olds', o1, o2⟩ := hrep.cells o (sl * size) (by omega)
           have hol : ((b.cells.drop o).take (sl * size)).length = sl * size := by simp; omega
           unfold BRep at hrep
           rw [hkind] at hrep
           obtain ⟨z0, cur, cty, z1, z2, z3, z4, z5⟩ := hrep
           have hx0' := z4 rfl
           have holdone : ∀ v ∈ (b.cells.drop o).take (sl * size), v.oneCell' = true := by
            intro v hv
            have hv2 := List.mem_of_mem_drop (List.mem_of_mem_take hv)
            obtain ⟨j, hj⟩ := List.mem_iff_getElem?.1 hv2
            obtain ⟨v', y1, y2, y3⟩ := z5 j v hj
            rw [← y2.one]; exact y3
           refine append_grows h hbase (.inl rfl) hfree hR hE hs0 o1 hol (fun w2 hw2 => ?_) holdone hsrc r1 hone (by omega) c1 c2 hsr
           have hl' : olds'.length = sl * size := by rw [← o1.1]; exact hol
           have h3 := run_loadCells_list (P := P) w2 _ olds' (fun j v hj => (World.cell?_of_block (w := w) (by rw [Addr.add_lit]; exact hw2 _)).trans (o2 j v hj))
           rw [hl'] at h3
           simpa [Builtin.firstCells] using h3
          ·cases he
         ·rename_i hkind
          split at he
          ·rename_i hsl0
           subst hsl0
           simp only [Option.some.injEq, Prod.mk.injEq] at he
           obtain ⟨rfl, rfl⟩ := he
           unfold BRep at hrep
           rw [hkind] at hrep
           obtain ⟨z0, z1, z2⟩ := hrep
           have := append_grows (sl := 0) (olds := []) (olds' := []) h hbase (.inl rfl) hfree hR hE hs0 .nil (by simp) (fun w2 _ => run_firstCells_zero _ _ _ _ _) (by simp) hsrc r1 hone (by omega) c1 c2 hsr
           simpa using this
          ·cases he
         ·cases he
         ·cases he
         ·cases he
         ·cases he
        ·cases he
      ·cases he
    ·cases he
  ·cases he
 ·cases he
end
section
variable {P : Program} {base : Nat} {R : Pl} {m : AM} {w : World} {n : Nat}
def bnd (d : Nat) : Option Value → Option Nat
 | none => some d
 | some (.int _ k) => if 0 ≤ k then some k.toNat else none
 | _ => none
theorem bnd_some (d d' : Nat) (v : Value) : bnd d (some v) = bnd d' (some v) := by cases v <;> rfl
theorem run_bound {v : Value} {d y k : Nat} {code : BoundsCode} (h : bnd d (some v) = some k) (hk : k ≤ y) (w : World) : (Instr.sliceBound v y code).run P w = .ok k w := by
 unfold bnd at h
 split at h
 ·cases ‹some v = none›
 ·rename_i kk q e
  injection e with e; subst e
  split at h
  ·rename_i h0
   injection h with h; subst h
   have : q ≤ y := by omega
   simp [Instr.sliceBound, asIntOf, h0, this]
  ·cases h
 ·cases h
theorem run_bounds {isS : Bool} {len cap l h : Nat} {lo hi : Option Value} (hl : bnd 0 lo = some l) (hh : bnd len hi = some h) (h1 : l ≤ h) (h2 : h ≤ cap) (w : World) : (Instr.sliceBounds isS len cap lo hi none).run P w = .ok (l, h, cap) w := by
 cases hi with
 | none =>
  simp [bnd] at hh; subst hh
  cases lo with
  | none => simp [bnd] at hl; subst hl; simp [Instr.sliceBounds]
  | some lv => simp [Instr.sliceBounds, run_bound (P := P) hl h1]
 | some hv =>
  cases lo with
  | none => simp [bnd] at hl; subst hl; simp [Instr.sliceBounds, run_bound (P := P) hh h2]
  | some lv => simp [Instr.sliceBounds, run_bound (P := P) hh h2, run_bound (P := P) hl h1]
theorem run_bounds3 {isS : Bool} {len cap l h k : Nat} {lo : Option Value} {hv mv : Value} (hl : bnd 0 lo = some l) (hh : bnd 0 (some hv) = some h) (hm : bnd 0 (some mv) = some k) (h1 : l ≤ h) (h2 : h ≤ k) (h3 : k ≤ cap) (w : World) :
  (Instr.sliceBounds isS len cap lo (some hv) (some mv)).run P w = .ok (l, h, k) w := by
 cases lo with
 | none => simp [bnd] at hl; subst hl; simp [Instr.sliceBounds, run_bound (P := P) hh h2, run_bound (P := P) hm h3]
 | some lv => simp [Instr.sliceBounds, run_bound (P := P) hh h2, run_bound (P := P) hm h3, run_bound (P := P) hl h1]
theorem bnd_rel {d k : Nat} {v v' : Option Value} (hv : ∀ x, v = some x → ∃ y, v' = some y ∧ Rel R x y) (hn : v = none → v' = none) (h : bnd d v = some k) : v' = v := by
 cases v with
 | none => exact hn rfl
 | some x =>
  obtain ⟨y, e, hr⟩ := hv x rfl
  unfold bnd at h
  split at h
  ·rename_i e0; cases e0
  ·rename_i kk q e0
   injection e0 with e0; subst e0
   cases hr
   exact e
  ·cases h
def aslice (P : Program) (m : AM) (n : Nat) (t : TypeId) (x : Value) (lo hi mx : Option Value) : Option (Value × AM) :=
 match P.underlying t, x with
 | some (.array len e), .pointer (some ⟨i, o, none⟩) =>
  match mx, szB P e, bnd 0 lo, bnd len hi, m[i]? with
  | none, some size, some l, some h, some (some b) =>
   if l ≤ h ∧ h ≤ len ∧ (b.kind = .own ∨ b.kind = .ro ∧ b.size = 0) then some (.slice (some ⟨i, if len = l then o else o + l * size, none⟩) (h - l) (len - l), m) else none
  | _, _, _, _, _ => none
 | some (.slice e), .slice none 0 0 =>
  match szB P e, mx, bnd 0 lo, bnd 0 hi with
  | some _, none, some 0, some 0 => some (.slice none 0 0, m)
  | some _, some v, some 0, some 0 => if bnd 0 (some v) = some 0 ∧ hi.isSome then some (.slice none 0 0, m) else none
  | _, _, _, _ => none
 | some (.slice e), .slice (some ⟨i, o, none⟩) sl sc =>
  match szB P e, bnd 0 lo, bnd sl hi, m[i]? with
  | some size, some l, some h, some (some b) =>
   match mx with
   | none =>
    if l ≤ h ∧ h ≤ sc then
     if l < sc then some (.slice (some ⟨i, o + l * size, none⟩) (h - l) (sc - l), m)
     else match b.kind with
      | .own => some (.slice (some ⟨i, o, none⟩) 0 0, m)
      | .grow => if o + sc * size = b.cells.length ∧ b.size = size then some (.slice (some ⟨n, 0, none⟩) 0 0, (m.set i none).set n (some { cells := [], kind := .grow, size := size })) else none
      | .ro => if b.size = 0 then some (.slice (some ⟨i, o, none⟩) 0 0, m) else some (.slice (some ⟨n, 0, none⟩) 0 0, m.set n (some { cells := [], kind := .ro }))
      | .edge => none
      | .map => none
      | .rom => none
      | .str => none
    else none
   | some v => if hi.isSome ∧ bnd 0 (some v) = some l ∧ h = l ∧ l = 0 then some (.slice (some ⟨n, 0, none⟩) 0 0, m.set n (some { cells := [], kind := .edge })) else none
  | _, _, _, _ => none
 | _, _ => none
def aslice0 (P : Program) (t : TypeId) (x : Value) (lo hi : Option Value) : Option Value :=
 match P.underlying t, x with
 | some (.slice e), .slice none 0 0 =>
  match szB P e, bnd 0 lo, bnd 0 hi with
  | some _, some 0, some 0 => some (.slice none 0 0)
  | _, _, _ => none
 | some (.slice e), .slice (some ⟨i, o, none⟩) sl sc =>
  match szB P e, bnd 0 lo, bnd sl hi with
  | some size, some l, some h => if l ≤ h ∧ h ≤ sc ∧ (l < sc ∨ l = 0) then some (.slice (some ⟨i, o + l * size, none⟩) (h - l) (sc - l)) else none
  | _, _, _ => none
 | some (.slice e), .slice (some ⟨i, o, some k⟩) 0 0 =>
  match szB P e, bnd 0 lo, bnd 0 hi with
  | some _, some 0, some 0 => some (.slice (some ⟨i, o, some k⟩) 0 0)
  | _, _, _ => none
 | _, _ => none
theorem aslice0_ok {t : TypeId} {x x' v : Value} {lo hi lo' hi' : Option Value} (hx : Rel R x x') (hlo : ∀ k d, bnd d lo = some k → lo' = lo) (hhi : ∀ k d, bnd d hi = some k → hi' = hi)
  (he : aslice0 P t x lo hi = some v) : ∃ v', (Instr.sliceAt t x' lo' hi' none).run P w = .ok v' w ∧ Rel R v v' := by
 unfold aslice0 at he
 split at he
 ·rename_i e hu
  have hx' : x' = .slice none 0 0 := by cases hx; rfl
  subst hx'
  split at he
  ·rename_i q hq hl hhb
   obtain rfl := hlo _ _ hl
   obtain rfl := hhi _ _ hhb
   injection he with he; subst he
   exact ⟨.slice none 0 0, by simp [Instr.sliceAt, Instr.slice, run_underlying hu, run_bounds (P := P) hl hhb (Nat.le_refl _) (Nat.le_refl _), run_sizeOf' hq], .sliceNil⟩
  ·cases he
 ·rename_i e i o sl sc hu
  cases hx with
  | slice _ _ _ _ p hp hle =>
  split at he
  ·rename_i size l hh hsz hl hhb
   split at he
   ·rename_i hc
    obtain ⟨c1, c2, c3⟩ := hc
    obtain rfl := hlo _ _ hl
    obtain rfl := hhi _ _ hhb
    injection he with he; subst he
    refine ⟨.slice (some (if sc + p.extra = l then (⟨p.block, p.off + o, none⟩ : Addr) else (⟨p.block, p.off + o, none⟩ : Addr).add (l * size))) (hh - l) (sc + p.extra - l), ?_, ?_⟩
    ·simp [Instr.sliceAt, Instr.slice, run_underlying hu, run_bounds (P := P) hl hhb c1 (show hh ≤ sc + p.extra by omega), run_sizeOf' hsz]
     split <;> simp
    ·have := Rel.slice (R := R) i (o + l * size) (hh - l) (sc - l) p hp (by omega)
     rw [show sc - l + p.extra = sc + p.extra - l by omega] at this
     by_cases hz : sc + p.extra = l
     ·obtain rfl : l = 0 := by omega
      rw [if_pos hz]
      simpa using this
     ·rw [if_neg hz, Addr.add_lit]
      simpa [Nat.add_assoc] using this
   ·cases he
  ·cases he
 ·rename_i e i o k hu
  cases hx with
  | sliceSpot _ _ _ p hp =>
  split at he
  ·rename_i q hq hl hhb
   obtain rfl := hlo _ _ hl
   obtain rfl := hhi _ _ hhb
   injection he with he; subst he
   exact ⟨.slice (some ⟨p.block, p.off + o, some k⟩) 0 0, by simp [Instr.sliceAt, Instr.slice, run_underlying hu, run_bounds (P := P) hl hhb (Nat.le_refl _) (Nat.le_refl _), run_sizeOf' hq], .sliceSpot _ _ _ p hp⟩
  ·cases he
 ·cases he
theorem view_ok (h : MRep base R m w) (hfree : m[n]? = some none) (hR : R n = none) (c : Blk) (q : Place) (hq : q.block < w.heap.size) (hc : c.cells = [] ∧ (c.kind = .ro ∧ c.size = 1 ∨ c.kind = .edge ∧ q.extra = 0))
  (hap : c.kind = .ro → ∀ (i : Nat) (b : Blk) (p : Place), m[i]? = some (some b) → b.kind.mine = true → R i = some p → p.block ≠ q.block) :
  Post base m (m.set n (some c)) R (R.put n q) w w := by
 have hle := Pl.le_put R n q hR
 have hn : n < m.length := (List.getElem?_eq_some_iff.1 hfree).1
 have old : ∀ (i : Nat) (b : Blk), (m.set n (some c))[i]? = some (some b) → i ≠ n → m[i]? = some (some b) := by
  intro i b hi hne
  rwa [List.getElem?_set_ne (fun e => hne e.symm)] at hi
 have hnew : ∀ (b : Blk), (m.set n (some c))[n]? = some (some b) → b = c := by
  intro b hi
  rw [List.getElem?_set_self hn] at hi
  injection hi with hi; injection hi with hi; exact hi.symm
 have hcs : c.kind.mine = false := by rcases hc.2 with ⟨e, _⟩ | ⟨e, _⟩ <;> rw [e] <;> rfl
 refine ⟨hle, ⟨fun j hj => ?_, fun j d hj => ?_, fun j k d e r r' hj hk' hdo heo hjk hr hr' => ?_⟩, rfl, rfl, rfl, Nat.le_refl _, fun _ _ _ => rfl, fun k ho => .inr ?_⟩
 ·simp at hj
  rw [Pl.put_other _ _ (by omega)]; exact h.none_ j hj
 ·by_cases hne : j = n
  ·subst hne
   have := hnew d hj
   subst this
   refine ⟨q, Pl.put_same _ _ _, hq, ?_⟩
   rcases hc.2 with ⟨e, e3⟩ | ⟨e, e2⟩
   ·rw [e]; exact ⟨fun x => by omega, fun j v hj => by rw [hc.1] at hj; simp at hj⟩
   ·rw [e]; exact ⟨hc.1, e2⟩
  ·obtain ⟨r, h1, h2⟩ := h.rep j d (old j d hj hne)
   exact ⟨r, hle _ _ h1, h2.mono hle⟩
 ·by_cases h1 : j = n
  ·subst h1
   have := hnew d hj
   subst this
   rw [hcs] at hdo; cases hdo
  ·rw [Pl.put_other _ _ h1] at hr
   by_cases h2 : k = n
   ·subst h2
    have := hnew e hk'
    subst this
    rw [Pl.put_same] at hr'
    injection hr' with hr'
    subst hr'
    rcases hc.2 with ⟨e1, _⟩ | ⟨e1, _⟩
    ·exact hap e1 j d r (old j d hj h1) hdo hr
    ·exact absurd e1 heo
   ·rw [Pl.put_other _ _ h2] at hr'
    exact h.apart j k d e r r' (old j d hj h1) (old k e hk' h2) hdo heo hjk hr hr'
 ·obtain ⟨j, b, p, h1, h2, h3, h4⟩ := ho
  by_cases e : j = n
  ·subst e
   have := hnew b h1
   subst this
   rw [hcs] at h2; cases h2
  ·rw [Pl.put_other _ _ e] at h3
   exact ⟨j, b, p, old j b h1 e, h2, h3, h4⟩
theorem aslice_ok (h : MRep base R m w) (hfree : m[n]? = some none) (hR : R n = none) {t : TypeId} {x x' v : Value} {lo hi mx lo' hi' mx' : Option Value} {m' : AM} (hx : Rel R x x')
  (hlo : ∀ k d, bnd d lo = some k → lo' = lo) (hhi : ∀ k d, bnd d hi = some k → hi' = hi) (hmx : (mx = none → mx' = none) ∧ ∀ k d, bnd d mx = some k → mx' = mx)
  (he : aslice P m n t x lo hi mx = some (v, m')) {s : Sem Next} (hsr : ∀ v, (Instr.sliceAt t x' lo' hi' mx').run P w = .ok v w → s.run P w = .ok (.value v) w) : Does P base R m n w s v m' := by
 unfold aslice at he
 split at he
 ·rename_i len e i o hu
  cases hx with
  | ptr _ _ p hp =>
  split at he
  ·rename_i size l hh b hsz hl hhb hb
   obtain rfl := hlo _ _ hl
   obtain rfl := hhi _ _ hhb
   obtain rfl := hmx.1 rfl
   split at he
   ·rename_i hc
    obtain ⟨c1, c2, c3⟩ := hc
    simp only [Option.some.injEq, Prod.mk.injEq] at he
    obtain ⟨rfl, rfl⟩ := he
    have hx0 : p.extra = 0 := by
     have hrep := h.of hb hp
     obtain ⟨_, hrep⟩ := hrep
     rcases c3 with c3 | ⟨c3, c4⟩
     ·rw [c3] at hrep; obtain ⟨_, _, _, _, _, k4, _⟩ := hrep; exact k4 rfl
     ·rw [c3] at hrep; exact hrep.1 c4
    refine does_same h (.inl (hsr (.slice (some (if len = l then ⟨p.block, p.off + o, none⟩ else (⟨p.block, p.off + o, none⟩ : Addr).add (l * size))) (hh - l) (len - l)) ?_)) ?_
    ·simp [Instr.sliceAt, run_underlying hu, Instr.sureAddr, run_bounds (P := P) hl hhb c1 c2, run_sizeOf' hsz]
    ·have := Rel.slice (R := R) i (if len = l then o else o + l * size) (hh - l) (len - l) p hp (by omega)
     rw [hx0] at this
     by_cases hll : len = l
     ·simpa [hll] using this
     ·simpa [hll, Addr.add_lit, Nat.add_assoc] using this
   ·cases he
  ·cases he
 ·rename_i e hu
  have hx' : x' = .slice none 0 0 := by cases hx; rfl
  subst hx'
  split at he
  ·rename_i q hq hl hhb
   obtain rfl := hlo _ _ hl
   obtain rfl := hhi _ _ hhb
   obtain rfl := hmx.1 rfl
   simp only [Option.some.injEq, Prod.mk.injEq] at he
   obtain ⟨rfl, rfl⟩ := he
   refine does_same h (.inl (hsr (.slice none 0 0) ?_)) .sliceNil
   simp [Instr.sliceAt, Instr.slice, run_underlying hu, run_bounds (P := P) hl hhb (Nat.le_refl _) (Nat.le_refl _), run_sizeOf' hq]
  ·rename_i q vv hq hl hhb
   split at he
   ·rename_i hc
    obtain ⟨c1, c2⟩ := hc
    obtain rfl := hlo _ _ hl
    obtain rfl := hhi _ _ hhb
    obtain rfl := hmx.2 _ _ c1
    simp only [Option.some.injEq, Prod.mk.injEq] at he
    obtain ⟨rfl, rfl⟩ := he
    refine does_same h (.inl (hsr (.slice none 0 0) ?_)) .sliceNil
    obtain ⟨hv, rfl⟩ := Option.isSome_iff_exists.1 c2
    simp [Instr.sliceAt, Instr.slice, run_underlying hu, run_bounds3 (P := P) hl hhb c1 (Nat.le_refl _) (Nat.le_refl _) (Nat.le_refl _), run_sizeOf' hq]
   ·cases he
  ·cases he
 ·rename_i e i o sl sc hu
  cases hx with
  | slice _ _ _ _ p hp hle =>
  split at he
  ·rename_i size l hh b hsz hl hhb hb
   have hrep := h.of hb hp
   obtain rfl := hlo _ _ hl
   obtain rfl := hhi _ _ hhb
   split at he
   ·obtain rfl := hmx.1 rfl
    split at he
    ·rename_i hc
     obtain ⟨c1, c2⟩ := hc
     have hrun : ∀ k, (k = if sc + p.extra = l then (⟨p.block, p.off + o, none⟩ : Addr) else (⟨p.block, p.off + o, none⟩ : Addr).add (l * size)) → (Instr.sliceAt t (.slice (some ⟨p.block, p.off + o, none⟩) sl (sc + p.extra)) lo' hi' none).run P w = .ok (.slice (some k) (hh - l) (sc + p.extra - l)) w := by
      intro k hk
      subst hk
      simp [Instr.sliceAt, Instr.slice, run_underlying hu, run_bounds (P := P) hl hhb c1 (show hh ≤ sc + p.extra by omega), run_sizeOf' hsz]
      split <;> simp
     split at he
     ·rename_i hlt
      simp only [Option.some.injEq, Prod.mk.injEq] at he
      obtain ⟨rfl, rfl⟩ := he
      refine does_same h (.inl (hsr _ (hrun _ rfl))) ?_
      rw [if_neg (by omega), Addr.add_lit]
      have := Rel.slice (R := R) i (o + l * size) (hh - l) (sc - l) p hp (by omega)
      rw [show sc - l + p.extra = sc + p.extra - l by omega] at this
      simpa [Nat.add_assoc] using this
     ·rename_i hlt
      have hhl : hh - l = 0 := by omega
      have hll : l = sc := by omega
      split at he
      ·rename_i hkind
       simp only [Option.some.injEq, Prod.mk.injEq] at he
       obtain ⟨rfl, rfl⟩ := he
       have hx0 : p.extra = 0 := by
        obtain ⟨_, hrep⟩ := hrep
        rw [hkind] at hrep; obtain ⟨_, _, _, _, _, k4, _⟩ := hrep; exact k4 rfl
       have hr := hrun _ rfl
       rw [if_pos (by omega), hhl, show sc + p.extra - l = 0 by omega] at hr
       refine does_same h (.inl (hsr _ hr)) ?_
       have := Rel.slice (R := R) i o 0 0 p hp (Nat.le_refl _)
       rw [hx0] at this
       exact this
      ·rename_i hkind
       split at he
       ·rename_i hend
        obtain ⟨e1, e2⟩ := hend
        simp only [Option.some.injEq, Prod.mk.injEq] at he
        obtain ⟨rfl, rfl⟩ := he
        have hr := hrun _ rfl
        rw [hhl, show sc + p.extra - l = p.extra by omega] at hr
        obtain ⟨z0, hrep⟩ := hrep
        rw [hkind] at hrep
        obtain ⟨cur, cty, z1, z2, z3, z4, z5⟩ := hrep
        obtain ⟨q, hq, hqo⟩ : ∃ q : Place, (if sc + p.extra = l then (⟨p.block, p.off + o, none⟩ : Addr) else (⟨p.block, p.off + o, none⟩ : Addr).add (l * size)) = ⟨q.block, q.off, none⟩ ∧ q.block = p.block ∧ q.extra = p.extra ∧ q.off + q.extra * size ≤ cur.size := by
         by_cases hx0 : sc + p.extra = l
         ·refine ⟨⟨p.block, p.off + o, p.extra⟩, by rw [if_pos hx0], rfl, rfl, ?_⟩
          have : p.extra = 0 := by omega
          simp only [this] at z3 ⊢
          omega
         ·refine ⟨⟨p.block, p.off + o + l * size, p.extra⟩, by rw [if_neg hx0, Addr.add_lit], rfl, rfl, ?_⟩
          rw [e2] at z3
          simp only
          rw [hll]
          omega
        obtain ⟨q1, q2, q3⟩ := hqo
        have hmv := h.move (n := n) (w' := w) hb (by rw [hkind]; rfl) hp hfree hR { cells := [], kind := .grow, size := size } q
         ⟨by rw [q1]; exact z0, cur, cty, by rw [q1]; exact z1, by rw [q1]; exact z2, by simpa using q3, (fun e => nomatch e), fun j v hj => by simp at hj⟩ q1 (by simp) (fun _ _ => rfl) rfl
        rw [hq] at hr
        refine ⟨_, _, w, .inl (hsr _ hr), ?_, ⟨hmv.1, hmv.2, rfl, rfl, rfl, Nat.le_refl _, fun _ _ _ => rfl, fun k ho => ?_⟩, fun j hj => Pl.put_other _ _ hj⟩
        ·have := Rel.slice (R := R.put n q) n 0 0 0 q (Pl.put_same _ _ _) (Nat.le_refl _)
         rw [q2] at this
         simpa using this
        ·rcases ho.of_put with e | e
         ·exact .inr ⟨i, b, p, hb, by rw [hkind]; rfl, hp, by rw [← q1]; exact e.symm⟩
         ·exact .inr e.drop
       ·cases he
      ·rename_i hkind
       split at he
       ·rename_i hs0
        simp only [Option.some.injEq, Prod.mk.injEq] at he
        obtain ⟨rfl, rfl⟩ := he
        have hx0 : p.extra = 0 := by
         obtain ⟨_, hrep⟩ := hrep
         rw [hkind] at hrep; exact hrep.1 hs0
        have hr := hrun _ rfl
        rw [if_pos (by omega), hhl, show sc + p.extra - l = 0 by omega] at hr
        refine does_same h (.inl (hsr _ hr)) ?_
        have := Rel.slice (R := R) i o 0 0 p hp (Nat.le_refl _)
        rw [hx0] at this
        exact this
       ·rename_i hs0
        simp only [Option.some.injEq, Prod.mk.injEq] at he
        obtain ⟨rfl, rfl⟩ := he
        have hr := hrun _ rfl
        rw [hhl, show sc + p.extra - l = p.extra by omega] at hr
        obtain ⟨q, hq, q1, q2⟩ : ∃ q : Place, (if sc + p.extra = l then (⟨p.block, p.off + o, none⟩ : Addr) else (⟨p.block, p.off + o, none⟩ : Addr).add (l * size)) = ⟨q.block, q.off, none⟩ ∧ q.block = p.block ∧ q.extra = p.extra := by
         by_cases hx0 : sc + p.extra = l
         ·exact ⟨⟨p.block, p.off + o, p.extra⟩, by rw [if_pos hx0], rfl, rfl⟩
         ·exact ⟨⟨p.block, p.off + o + l * size, p.extra⟩, by rw [if_neg hx0, Addr.add_lit], rfl, rfl⟩
        rw [hq] at hr
        refine ⟨_, _, w, .inl (hsr _ hr), ?_, view_ok h hfree hR { cells := [], kind := .ro } q (by rw [q1]; exact hrep.lt) ⟨rfl, .inl ⟨rfl, rfl⟩⟩ (fun _ j d r hj hd hr => ?_), fun j hj => Pl.put_other _ _ hj⟩
        ·have := Rel.slice (R := R.put n q) n 0 0 0 q (Pl.put_same _ _ _) (Nat.le_refl _)
         rw [q2] at this
         simpa using this
        ·rw [q1]
         refine h.apart j i d b r p hj hb hd (by rw [hkind]; simp) (fun e => ?_) hr hp
         subst e
         rw [hb] at hj; injection hj with hj; injection hj with hj; subst hj
         rw [hkind] at hd; cases hd
      ·cases he
      ·cases he
      ·cases he
      ·cases he
    ·cases he
   ·rename_i vv
    split at he
    ·rename_i hc
     obtain ⟨c1, c2, c3, c4⟩ := hc
     obtain rfl := hmx.2 _ _ c2
     simp only [Option.some.injEq, Prod.mk.injEq] at he
     obtain ⟨rfl, rfl⟩ := he
     obtain ⟨hv, rfl⟩ := Option.isSome_iff_exists.1 c1
     subst c4
     subst c3
     have hr : (Instr.sliceAt t (.slice (some ⟨p.block, p.off + o, none⟩) sl (sc + p.extra)) lo' (some hv) (some vv)).run P w = .ok (.slice (some ⟨p.block, p.off + o, none⟩) 0 0) w := by
      have hhb' : bnd 0 (some hv) = some 0 := by rw [bnd_some 0 sl]; exact hhb
      simp [Instr.sliceAt, Instr.slice, run_underlying hu, run_bounds3 (P := P) hl hhb' c2 (Nat.le_refl _) (Nat.le_refl _) (Nat.zero_le _), run_sizeOf' hsz]
     refine ⟨_, _, w, .inl (hsr _ hr), ?_, view_ok h hfree hR { cells := [], kind := .edge } ⟨p.block, p.off + o, 0⟩ hrep.lt ⟨rfl, .inr ⟨rfl, rfl⟩⟩ (fun e => nomatch e), fun j hj => Pl.put_other _ _ hj⟩
     have := Rel.slice (R := R.put n ⟨p.block, p.off + o, 0⟩) n 0 0 0 ⟨p.block, p.off + o, 0⟩ (Pl.put_same _ _ _) (Nat.le_refl _)
     simpa using this
    ·cases he
  ·cases he
 ·cases he
end
section
variable {P : Program} {base : Nat} {R : Pl} {m : AM} {w : World} {n : Nat}
def keyB : TypeDesc → Value → Bool
 | .bool, .bool _ => true
 | .int k, .int k' _ => decide (k' = k)
 | .string, .string _ => true
 | _, _ => false
theorem keyB_is {d : TypeDesc} {k : Value} (h : keyB d k = true) : MapKept.IsKey d k := by
 unfold keyB at h
 split at h
 ·trivial
 ·simpa [MapKept.IsKey] using h
 ·trivial
 ·cases h
def keyIn (d : TypeDesc) (k : Value) : List (Value × Value) → Nat → Option (Option Nat)
 | [], _ => some none
 | x :: l, i => match Instr.sameNow d k x.1 with
  | some true => some (some i)
  | some false => keyIn d k l (i + 1)
  | none => none
theorem keyIn_ok {d : TypeDesc} {k : Value} : ∀ (l : List (Value × Value)) (es : List MapEntry) (i : Nat) (r : Option Nat), l.length = es.length →
  (∀ (j : Nat) (a b : Value), l[j]? = some (a, b) → ∃ e, es[j]? = some e ∧ e.key = a) → keyIn d k l i = some r →
  match r with
  | none => Instr.findNow d k es i = some none
  | some q => ∃ j a b e, q = i + j ∧ l[j]? = some (a, b) ∧ es[j]? = some e ∧ Instr.sameNow d k a = some true ∧ Instr.findNow d k es i = some (some (q, e.val))
 | [], [], i, r, _, _, h => by
  simp only [keyIn] at h
  injection h with h; subst h
  rfl
 | [], _ :: _, _, _, h, _, _ => by simp at h
 | _ :: _, [], _, _, h, _, _ => by simp at h
 | (a, b) :: l, e :: es, i, r, hl, hj, h => by
  obtain ⟨e0, h0, h1⟩ := hj 0 a b rfl
  simp at h0; subst h0
  simp only [keyIn] at h
  cases hs : Instr.sameNow d k a with
  | none => rw [hs] at h; cases h
  | some q =>
   rw [hs] at h
   cases q with
   | true =>
    simp only at h
    injection h with h; subst h
    exact ⟨0, a, b, e, rfl, rfl, rfl, hs, by simp [Instr.findNow, h1, hs]⟩
   | false =>
    simp only at h
    have ih := keyIn_ok l es (i + 1) r (by simpa using hl) (fun j a b hq => by simpa using hj (j + 1) a b (by simpa using hq)) h
    cases r with
    | none => simpa [Instr.findNow, h1, hs] using ih
    | some q =>
     obtain ⟨j, a', b', e', k1, k2, k3, k4, k5⟩ := ih
     exact ⟨j + 1, a', b', e', by omega, by simpa using k2, by simpa using k3, k4, by simpa [Instr.findNow, h1, hs] using k5⟩
def zeroG (P : Program) (t : TypeId) : Option Value :=
 match P.info? t with
 | some i => match i.zero with
  | some z => if g1 z then some z else none
  | none => none
 | none => none
theorem zeroG_run {t : TypeId} {z : Value} (h : zeroG P t = some z) : Rel R z z ∧ ∀ w, (zeroValue t).run P w = .ok z w := by
 unfold zeroG at h
 split at h
 ·rename_i i hi
  split at h
  ·rename_i z' hz
   split at h
   ·rename_i hg
    injection h with h; subst h
    exact ⟨g1_rel hg, fun w => by simp [zeroValue, typeInfo, hi, hz]⟩
   ·cases h
  ·cases h
 ·cases h
def isMapK : Kind → Bool
 | .map | .rom => true
 | _ => false
def aents (m : AM) : Value → Option (List (Value × Value))
 | .map none => some []
 | .map (some i) => match m[i]? with
  | some (some b) => if isMapK b.kind then some b.ents else none
  | _ => none
 | _ => none
def alookup (P : Program) (m : AM) (t : TypeId) (x k : Value) (ok : Bool) : Option Value :=
 match P.underlying t with
 | some (.map kt et) => match P.underlying kt, aents m x with
  | some d, some l => if keyB d k then match keyIn d k l 0 with
    | some (some j) => match l[j]? with
     | some e => some (if ok then .tuple #[e.2, .bool true] else e.2)
     | none => none
    | some none => match zeroG P et with
     | some z => some (if ok then .tuple #[z, .bool false] else z)
     | none => none
    | none => none
   else none
  | _, _ => none
 | _ => none
theorem rel_pair {a a' : Value} (h : Rel R a a') (b : Bool) : Rel R (.tuple #[a, .bool b]) (.tuple #[a', .bool b]) := by
 refine .tuple _ _ rfl fun i hi => ?_
 simp at hi
 rcases i with _ | _ | i
 ·simpa using h
 ·simpa using Rel.bool (R := R) b
 ·omega
theorem BRep.ents {b : Blk} {p : Place} (h : BRep base R b p w) (hk : isMapK b.kind = true) : ∃ es, w.heap[p.block]? = some (.map es es.size) ∧ RelE R b.ents es.toList := by
 obtain ⟨_, h⟩ := h
 split at h
 ·rename_i e; rw [e] at hk; cases hk
 ·rename_i e; rw [e] at hk; cases hk
 ·obtain ⟨_, _, _, es, h1, h2⟩ := h; exact ⟨es, h1, h2⟩
 ·obtain ⟨_, _, es, h1, h2⟩ := h; exact ⟨es, h1, h2⟩
 ·rename_i e; rw [e] at hk; cases hk
 ·rename_i k hn1 hn2 hn3 hn4 hn5
  cases hb : b.kind <;> rw [hb] at hk <;> first | (cases hk) | skip
  ·exact absurd hb hn3
  ·exact absurd hb hn4
theorem alookup_ok (h : ∀ (i : Nat) (b : Blk), m[i]? = some (some b) → ∃ p, R i = some p ∧ BRep base R b p w) {t : TypeId} {x x' k k' v : Value} {ok : Bool} (hx : Rel R x x') (hk : Rel R k k') (hl : alookup P m t x k ok = some v) :
  ∃ v', (Instr.lookup t x' k' ok).run P w = .ok v' w ∧ Rel R v v' := by
 unfold alookup at hl
 split at hl
 ·rename_i kt et ht
  split at hl
  ·rename_i d l hd he
   split at hl
   ·rename_i hkb
    have hkk : k' = k := by
     refine g1_eq ?_ hk
     unfold keyB at hkb
     split at hkb
     ·rfl
     ·rfl
     ·rfl
     ·cases hkb
    subst hkk
    have hik := keyB_is hkb
    -- the entries as they lie
    have hes : ∃ es : Array MapEntry, RelE R l es.toList ∧ ((x' = .map none ∧ es = #[]) ∨ ∃ q, x' = .map (some q) ∧ w.heap[q]? = some (.map es es.size)) := by
     unfold aents at he
     split at he
     ·injection he with he; subst he
      cases hx
      exact ⟨#[], ⟨rfl, fun j a b hj => by simp at hj⟩, .inl ⟨rfl, rfl⟩⟩
     ·split at he
      ·rename_i i _ b hb
       split at he
       ·rename_i hmk
        injection he with he; subst he
        cases hx with
        | mapAt _ p hp =>
         obtain ⟨q, h1, h2⟩ := h i b hb
         rw [hp] at h1; injection h1 with h1; subst h1
         obtain ⟨es, h3, h4⟩ := h2.ents hmk
         exact ⟨es, h4, .inr ⟨_, rfl, h3⟩⟩
       ·cases he
      ·cases he
     ·cases he
    obtain ⟨es, hre, hrun⟩ := hes
    have hck : ∀ e : Bool, (Instr.checkKey e 10000 kt k').run P w = .ok () w := fun e => MapKept.run_checkKey hd hik e 9999
    have hfind : ∀ a, Instr.findNow d k' es.toList 0 = some a → (Instr.findKey kt k' es.toList).run P w = .ok a w := fun a ha => MapKept.run_findKey hd ha
    split at hl
    ·rename_i j hj
     obtain ⟨j0, a, b, e, k1, k2, k3, k4, k5⟩ := keyIn_ok l es.toList 0 (some j) hre.1 (fun j a b hq => by obtain ⟨e, q1, q2, _⟩ := hre.2 j a b hq; exact ⟨e, q1, q2⟩) hj
     have : j0 = j := by omega
     subst this
     rw [k2] at hl
     simp only at hl
     injection hl with hl; subst hl
     obtain ⟨e', q1, q2, q3, q4⟩ := hre.2 j0 a b k2
     rw [k3] at q1; injection q1 with q1; subst q1
     refine ⟨if ok then .tuple #[e.val, .bool true] else e.val, ?_, ?_⟩
     ·have hf := hfind _ k5
      rcases hrun with ⟨rfl, rfl⟩ | ⟨q, rfl, hq⟩
      ·simp at k3
      ·simp [Instr.lookup, run_underlying ht, MapKept.run_getObj_map hq, hck, hf, Result.andThen]
     ·cases ok
      ·simpa using q4
      ·simpa using rel_pair q4 true
    ·rename_i hj
     have k5 := keyIn_ok l es.toList 0 none hre.1 (fun j a b hq => by obtain ⟨e, q1, q2, _⟩ := hre.2 j a b hq; exact ⟨e, q1, q2⟩) hj
     simp only at k5
     split at hl
     ·rename_i z hz
      injection hl with hl; subst hl
      obtain ⟨z1, z2⟩ := zeroG_run (R := R) hz
      refine ⟨if ok then .tuple #[z, .bool false] else z, ?_, ?_⟩
      ·have hf := hfind _ k5
       rcases hrun with ⟨rfl, rfl⟩ | ⟨q, rfl, hq⟩
       ·simp [Instr.lookup, run_underlying ht, hck] at hf ⊢
        simp [hf, z2, Result.andThen]
       ·simp [Instr.lookup, run_underlying ht, MapKept.run_getObj_map hq, hck, hf, z2, Result.andThen]
      ·cases ok
       ·simpa using z1
       ·simpa using rel_pair z1 false
     ·cases hl
    ·cases hl
   ·cases hl
  ·cases hl
 ·cases hl
theorem makeMap_ok (h : MRep base R m w) (hbase : base ≤ w.heap.size) (hfree : m[n]? = some none) (hR : R n = none) :
  Post base m (m.set n (some { cells := [], kind := .map })) R (R.put n ⟨w.heap.size, 0, 0⟩) w (w.alloc (.map #[] 0)) := by
 have hn : n < m.length := (List.getElem?_eq_some_iff.1 hfree).1
 have hb : Below w.heap.size w (w.alloc (.map #[] 0)) := (Below.refl _ _).alloc (Nat.le_refl _) _
 obtain ⟨k1, k2⟩ := h.put (w' := w.alloc (.map #[] 0)) n hn hfree hR { cells := [], kind := .map } ⟨w.heap.size, 0, 0⟩ hb.block rfl
  ⟨by simp, rfl, rfl, hbase, #[], heap_alloc_new w _, rfl, fun j a b hj => by simp at hj⟩
 refine ⟨k1, k2, rfl, rfl, rfl, hb.size, fun k hk _ => hb.block k hk, fun k ho => ?_⟩
 obtain ⟨j, c, q, q1, q2, q3, q4⟩ := ho
 by_cases e : j = n
 ·subst e
  rw [Pl.put_same] at q3
  injection q3 with q3
  subst q3
  exact .inl (by rw [← q4]; exact Nat.le_refl _)
 ·rw [List.getElem?_set_ne (fun x => e x.symm)] at q1
  rw [Pl.put_other _ _ e] at q3
  exact .inr ⟨j, c, q, q1, q2, q3, q4⟩
def amapUpdate (P : Program) (m : AM) (t : TypeId) (x k v : Value) : Option AM :=
 match P.underlying t, x with
 | some (.map kt _), .map (some i) => match P.underlying kt, m[i]? with
  | some d, some (some b) => if keyB d k && decide (b.kind = .map) then match keyIn d k b.ents 0 with
    | some (some j) => some (m.set i (some { b with ents := b.ents.set j (k, v) }))
    | some none => some (m.set i (some { b with ents := b.ents ++ [(k, v)] }))
    | none => none
   else none
  | _, _ => none
 | _, _ => none
theorem amapUpdate_ok (h : MRep base R m w) {t : TypeId} {x x' k k' v v' : Value} {m' : AM} (hx : Rel R x x') (hk : Rel R k k') (hv : Rel R v v') (hl : amapUpdate P m t x k v = some m') :
  ∃ w', (Instr.mapUpdate t x' k' v').run P w = .ok () w' ∧ Post base m m' R R w w' := by
 unfold amapUpdate at hl
 split at hl
 ·rename_i kt et i ht
  split at hl
  ·rename_i d b hd hb
   split at hl
   ·rename_i hkb
    simp only [Bool.and_eq_true, decide_eq_true_eq] at hkb
    obtain ⟨hkb, hbk⟩ := hkb
    have hkk : k' = k := by
     refine g1_eq ?_ hk
     unfold keyB at hkb
     split at hkb
     ·rfl
     ·rfl
     ·rfl
     ·cases hkb
    subst hkk
    have hik := keyB_is hkb
    cases hx with
    | mapAt _ p hp =>
    have hbr := h.of hb hp
    have hmine : b.kind.mine = true := by rw [hbk]; rfl
    have hbr' := hbr
    unfold BRep at hbr'
    rw [hbk] at hbr'
    obtain ⟨hlt, hc, hex, hbs, es, hob, hre⟩ := hbr'
    have hck := MapKept.run_checkKey (P := P) (w := w) hd hik false 9999
    -- the world behind it
    have post : ∀ (l : List (Value × Value)) (fs : Array MapEntry), RelE R l fs.toList →
      Post base m (m.set i (some { b with ents := l })) R R w { w with heap := w.heap.setIfInBounds p.block (.map fs fs.size) } := by
     intro l fs hfs
     have hs := MapKept.heap_set (o' := .map fs fs.size) hob
     refine ⟨.refl R, h.turn hb hmine hp _ (by exact hmine) ?_ ?_ ?_, rfl, rfl, rfl, by simp, fun k' hk' ho => ?_, fun k' ho => ?_⟩
     ·refine ⟨by simpa using hlt, ?_⟩
      simp only [hbk]
      exact ⟨hc, hex, hbs, fs, hs.1, hfs⟩
     ·intro k' hne; exact hs.2 k' hne
     ·simp
     ·exact hs.2 k' fun e => ho ⟨i, b, p, hb, hmine, hp, e.symm⟩
     ·refine .inr ?_
      obtain ⟨j, c, q, q1, q2, q3, q4⟩ := ho
      by_cases e : j = i
      ·subst e; exact ⟨j, b, q, hb, hmine, q3, q4⟩
      ·rw [List.getElem?_set_ne (fun x => e x.symm)] at q1
       exact ⟨j, c, q, q1, q2, q3, q4⟩
    split at hl
    ·rename_i j hj
     injection hl with hl; subst hl
     obtain ⟨j0, a, b0, e, k1, k2, k3, k4, k5⟩ := keyIn_ok b.ents es.toList 0 (some j) hre.1 (fun j a b hq => by obtain ⟨e, q1, q2, _⟩ := hre.2 j a b hq; exact ⟨e, q1, q2⟩) hj
     have : j0 = j := by omega
     subst this
     obtain ⟨e', q1, q2, q3, q4⟩ := hre.2 j0 a b0 k2
     rw [k3] at q1; injection q1 with q1; subst q1
     -- the same key
     have hak : a = k' := by
      have hka : MapKept.IsKey d a := by
       revert k4
       unfold keyB at hkb
       split at hkb
       ·intro k4; cases a <;> simp [Instr.sameNow] at k4 <;> trivial
       ·rename_i q q' n
        simp only [decide_eq_true_eq] at hkb
        subst hkb
        intro k4; cases a <;> simp [Instr.sameNow] at k4
        exact k4.1.symm
       ·intro k4; cases a <;> simp [Instr.sameNow] at k4 <;> trivial
       ·cases hkb
      obtain ⟨r, r1, r2⟩ := MapKept.sameNow_of_keys hik hka
      rw [k4] at r1; injection r1 with r1
      exact (r2.1 r1.symm).symm
     subst hak
     have hej : es[j0]? = some e := by simpa using k3
     have hfs : RelE R (b.ents.set j0 (a, v)) (es.modify j0 fun e => { e with key := a, val := v' }).toList := by
      refine ⟨by simpa using hre.1, fun q x y hq => ?_⟩
      by_cases e2 : j0 = q
      ·subst e2
       have hlt2 : j0 < b.ents.length := (List.getElem?_eq_some_iff.1 k2).1
       rw [List.getElem?_set_self hlt2] at hq
       injection hq with hq
       simp only [Prod.mk.injEq] at hq
       obtain ⟨rfl, rfl⟩ := hq
       exact ⟨{ e with key := a, val := v' }, by simp [Array.getElem?_modify, hej], rfl, q3, hv⟩
      ·rw [List.getElem?_set_ne e2] at hq
       obtain ⟨z, z1, z2⟩ := hre.2 q x y hq
       exact ⟨z, by simpa [Array.getElem?_modify, e2] using z1, z2⟩
     have hp2 := post _ _ hfs
     simp only [Array.size_modify] at hp2
     refine ⟨_, ?_, hp2⟩
     simp only [Nat.zero_add] at k1
     simp [Instr.mapUpdate, run_underlying ht, MapKept.run_getObj_map hob, hck, MapKept.run_findKey hd k5, hej, q2, MapKept.run_keyThatStays hik, MapKept.run_setObj_map _ hob, Result.andThen]
    ·rename_i hj
     injection hl with hl; subst hl
     have k5 := keyIn_ok b.ents es.toList 0 none hre.1 (fun j a b hq => by obtain ⟨e, q1, q2, _⟩ := hre.2 j a b hq; exact ⟨e, q1, q2⟩) hj
     simp only at k5
     have hl2 : b.ents.length = es.size := by simpa using hre.1
     have hfs : RelE R (b.ents ++ [(k', v)]) (es.push { key := k', val := v', born := es.size }).toList := by
      refine ⟨by simpa using hre.1, fun q x y hq => ?_⟩
      by_cases e2 : q < b.ents.length
      ·rw [List.getElem?_append_left e2] at hq
       obtain ⟨z, z1, z2⟩ := hre.2 q x y hq
       refine ⟨z, ?_, z2⟩
       rw [Array.toList_push, List.getElem?_append_left (by simpa [← hl2] using e2)]
       exact z1
      ·rw [List.getElem?_append_right (by omega)] at hq
       have hq0 : q = b.ents.length := by
        rcases hz : q - b.ents.length with _ | z
        ·omega
        ·rw [hz] at hq; simp at hq
       subst hq0
       simp at hq
       obtain ⟨rfl, rfl⟩ := hq
       exact ⟨_, by rw [Array.toList_push, List.getElem?_append_right (by simp [hl2])]; simp [hl2]; rfl, rfl, hl2.symm, hv⟩
     have hp2 := post _ _ hfs
     simp only [Array.size_push] at hp2
     refine ⟨_, ?_, hp2⟩
     simp [Instr.mapUpdate, run_underlying ht, MapKept.run_getObj_map hob, hck, MapKept.run_findKey hd k5, MapKept.run_setObj_map _ hob, Result.andThen]
    ·cases hl
   ·cases hl
  ·cases hl
 ·cases hl
end
section
variable {P : Program} {base : Nat} {R : Pl} {m : AM} {w : World} {n : Nat}
def bEq (op : BinOp) : Option Bool :=
 match op with
 | .eql => some false
 | .neq => some true
 | _ => none
def anil (P : Program) (op : BinOp) (t : TypeId) (x y : Value) : Option Value :=
 match P.underlying t, x, y with
 | some (.pointer _), .pointer (some ⟨_, _, none⟩), .pointer none => (bEq op).map .bool
 | some (.slice _), .slice (some _) _ _, .slice none 0 0 => (bEq op).map .bool
 | some (.func ..), .func .., .nilFunc => (bEq op).map .bool
 | _, _, _ => none
theorem equal_at {t : TypeId} {x y : Value} {b : Bool} (h : ∀ d, (Op.equalIn (d + 1) t x y).run P w = .ok b w) : (Op.equal t x y).run P w = .ok b w := h 9999
theorem equal_ptr {t e : TypeId} (hu : P.underlying t = some (.pointer e)) (a : Addr) (w : World) : (Op.equal t (.pointer (some a)) (.pointer none)).run P w = .ok false w :=
 equal_at fun d => by simp only [Op.equalIn, Sem.run_bind, run_underlying hu, Result.andThen_ok]; rfl
theorem equal_slice {t e : TypeId} (hu : P.underlying t = some (.slice e)) (a : Addr) (k c : Nat) (w : World) : (Op.equal t (.slice (some a) k c) (.slice none 0 0)).run P w = .ok false w :=
 equal_at fun d => by simp only [Op.equalIn, Sem.run_bind, run_underlying hu, Result.andThen_ok]; rfl
theorem equal_func {t : TypeId} {p q : Array TypeId} {r : Bool} (hu : P.underlying t = some (.func p q r)) (fn : Fn) (a b : Array Value) (w : World) : (Op.equal t (.func fn a b) .nilFunc).run P w = .ok false w :=
 equal_at fun d => by simp only [Op.equalIn, Sem.run_bind, run_underlying hu, Result.andThen_ok]; rfl
theorem anil_ok {op : BinOp} {t : TypeId} {x x' y y' v : Value} (hx : Rel R x x') (hy : Rel R y y') (h : anil P op t x y = some v) :
  ∀ a b, (do eqGuard op t a b x' y'; binOp op t x' y' : Sem Value).run P w = .ok v w := by
 intro a b
 unfold anil at h
 split at h
 ·rename_i hu
  cases hx; cases hy
  cases op <;> simp [bEq] at h <;> subst h <;> simp [eqGuard, binOp, equal_ptr hu]
 ·rename_i hu
  cases hx <;> cases hy <;> cases op <;> simp [bEq] at h <;> subst h <;> simp [eqGuard, binOp, equal_slice hu]
 ·rename_i hu
  cases hx; cases hy
  cases op <;> simp [bEq] at h <;> subst h <;> simp [eqGuard, binOp, equal_func hu]
 ·cases h
def aint (op : BinOp) (x y : Value) : Option Value :=
 match x, y with
 | .int k a, .int k' b =>
  if k = k' then
   match op with
   | .add => some (.int k (k.wrap (a + b)))
   | .sub => some (.int k (k.wrap (a - b)))
   | .mul => some (.int k (k.wrap (a * b)))
   | .lss => some (.bool (decide (a < b)))
   | .leq => some (.bool (decide (a ≤ b)))
   | .gtr => some (.bool (decide (b < a)))
   | .geq => some (.bool (decide (b ≤ a)))
   | .eql => some (.bool (decide (a = b)))
   | .neq => some (.bool (!decide (a = b)))
   | _ => none
  else none
 | _, _ => none
theorem beq_eq_dec (a b : Int) : (a == b) = decide (a = b) := by by_cases h : a = b <;> simp [h]
theorem aint_ok {op : BinOp} {t : TypeId} {x x' y y' v : Value} (hx : Rel R x x') (hy : Rel R y y') (h : aint op x y = some v) :
  ∀ a b, (do eqGuard op t a b x' y'; binOp op t x' y' : Sem Value).run P w = .ok v w ∧ Rel R v v := by
 intro a b
 unfold aint at h
 split at h
 ·cases hx; cases hy
  split at h
  ·rename_i hk
   subst hk
   split at h <;> cases h <;> exact ⟨by simp [eqGuard, binOp, Op.intArith, Op.intCmp, beq_eq_dec, bne], by constructor⟩
  ·cases h
 ·cases h
def anilCheck : Value → Option Value
 | .pointer (some ⟨i, o, none⟩) => some (.pointer (some ⟨i, o, none⟩))
 | .func (.func f) a b => some (.func (.func f) a b)
 | _ => none
def aground (P : Program) (o : Oper) (ev : Operand → Value) : Option Value :=
 if o.op.operands.all (fun x => g1 (ev x)) then
  match still P (execOp ev o) with
  | some (.value v) => if g1 v then some v else none
  | _ => none
 else none
def aquiet (P : Program) (o : Oper) (ev : Operand → Value) (m : AM) : Option Value :=
 match o.op with
 | .move x | .assign x => some (ev x)
 | .pick c a b => match ev c with
  | .bool q => some (if q then ev a else ev b)
  | _ => none
 | .load t a => aload P m t (ev a)
 | .build t ps => abuild P t (ps.map fun (i, x) => (i, ev x)).toList
 | .fieldAddr s x f => afield P s (ev x) f
 | .indexAddr t x i => aindex P t (ev x) (ev i)
 | .field t x f => afieldOf P t (ev x) f
 | .index t x i => match ev x with
  | .agg _ => aindexOf P t (ev x) (ev i)
  | _ => aground P o ev
 | .extract x i => match ev x with
  | .tuple vs => vs[i]?
  | _ => none
 | .nilCheck x => anilCheck (ev x)
 | .makeFunc fn f c => some (.func fn (f.map ev) (c.map ev))
 | .binOp op t x y _ => match aint op (ev x) (ev y) with
  | some v => some v
  | none => match anil P op t (ev x) (ev y) with
   | some v => some v
   | none => aground P o ev
 | .unOp .. | .convert .. => aground P o ev
 | .slice t x lo hi mx => match ev x with
  | .string _ => aground P o ev
  | _ => match mx with
   | none => aslice0 P t (ev x) (lo.map ev) (hi.map ev)
   | some _ => none
 | .call c => match c.callee, c.args.toList, c.argTypes.toList with
  | .builtin .len, [x], [t] => match alen P t (ev x) with
   | some v => some v
   | none => aground P o ev
  | .builtin .min, _, _ => aground P o ev
  | .builtin .max, _, _ => aground P o ev
  | _, _, _ => none
 | .lookup t x k c => alookup P m t (ev x) (ev k) c
 | _ => none
def needsNew : Op → Bool
 | .alloc _ | .box .. | .buildSlice .. | .makeSlice .. | .slice .. | .makeMap .. => true
 | .call c => match c.callee with
  | .builtin .append => true
  | _ => false
 | _ => false
def aloud (P : Program) (o : Oper) (ev : Operand → Value) (m : AM) (n : Nat) : Option (Value × AM) :=
 match o.op with
 | .store t a x => (astore P m t (ev a) (ev x)).map fun m' => (undef, m')
 | .alloc t => (zeroB P t).map fun z => (.pointer (some ⟨n, 0, none⟩), m.set n (some { cells := z.toList }))
 | .box _ x => if (ev x).cells.all (·.oneCell') then some (.pointer (some ⟨n, 0, none⟩), m.set n (some { cells := (ev x).cells.toList })) else none
 | .buildSlice t l ps => abuildSlice P m n t l (ps.map fun (i, x) => (i, ev x)).toList
 | .makeSlice t l c => amake P m n t (ev l) (ev c)
 | .slice t x lo hi mx => aslice P m n t (ev x) (lo.map ev) (hi.map ev) (mx.map ev)
 | .call c => match c.callee, c.args.toList, c.argTypes.toList with
  | .builtin .append, [s, x], [t, tx] => aappend P m n t tx (ev s) (ev x)
  | .builtin .copy, [d, x], [t, _] => acopy P m t (ev d) (ev x)
  | .builtin .clear, [x], [t] => aclear P m t (ev x)
  | _, _, _ => none
 | .makeMap _ r => match r with
  | none => some (.map (some n), m.set n (some { cells := [], kind := .map }))
  | some _ => none
 | .mapUpdate t x k v => (amapUpdate P m t (ev x) (ev k) (ev v)).map fun m' => (undef, m')
 | _ => none
def HRep (base : Nat) (R : Pl) (m : AM) (w : World) : Prop := ∀ (i : Nat) (b : Blk), m[i]? = some (some b) → ∃ p, R i = some p ∧ BRep base R b p w
theorem MRep.held (h : MRep base R m w) : HRep base R m w := h.rep
theorem aground_ok {o : Oper} {ev ev' : Operand → Value} {v : Value} (hs : ∀ cs b, o.op ≠ .select cs b) (hev : ∀ x ∈ o.op.operands, Rel R (ev x) (ev' x)) (he : aground P o ev = some v) :
  ∃ v', (execOp ev' o).run P w = .ok (.value v') w ∧ Rel R v v' := by
 unfold aground at he
 split at he
 ·rename_i hg
  have hcong : execOp ev' o = execOp ev o := execOp_congr o hs fun x hx => g1_eq (by have := Array.all_eq_true'.1 hg x hx; exact this) (hev x hx)
  split at he
  ·rename_i v0 hst
   split at he
   ·rename_i hv
    injection he with he; subst he
    exact ⟨v0, by rw [hcong]; exact still_run P _ _ hst w, g1_rel hv⟩
   ·cases he
  ·cases he
 ·cases he
theorem rels_map {ev ev' : Operand → Value} (c : Array Operand) (h : ∀ x ∈ c, Rel R (ev x) (ev' x)) : Rels R (c.map ev) (c.map ev') := by
 refine ⟨by simp, fun i hi => ?_⟩
 simp at hi
 simpa [hi] using h c[i] (by simp)
theorem parts_rel {ev ev' : Operand → Value} (ps : Array (Nat × Operand)) (h : ∀ x ∈ (ps.toList.map (·.2)).toArray, Rel R (ev x) (ev' x)) :
  (ps.map fun (i, x) => (i, ev x)).toList.map (·.1) = (ps.map fun (i, x) => (i, ev' x)).toList.map (·.1) ∧
  ∀ (j : Nat) (x y : Nat × Value), (ps.map fun (i, x) => (i, ev x)).toList[j]? = some x → (ps.map fun (i, x) => (i, ev' x)).toList[j]? = some y → Rel R x.2 y.2 := by
 refine ⟨by simp [Function.comp_def], fun j x y hx hy => ?_⟩
 simp at hx hy
 obtain ⟨a, b, h1, rfl⟩ := hx
 obtain ⟨a', b', h2, rfl⟩ := hy
 rw [h1] at h2
 injection h2 with h2
 simp only [Prod.mk.injEq] at h2
 obtain ⟨rfl, rfl⟩ := h2
 refine h b ?_
 simp
 exact ⟨a, by
  have := Array.mem_of_getElem? h1
  exact this⟩
theorem int_of_rel {x y : Value} {k : IntKind} {q : Int} (e : x = .int k q) (h : Rel R x y) : y = x := by subst e; cases h; rfl
theorem aquiet_ok (h : HRep base R m w) {o : Oper} {ev ev' : Operand → Value} {v : Value} (hev : ∀ x ∈ o.op.operands, Rel R (ev x) (ev' x))
  (he : aquiet P o ev m = some v) : ∃ v', (execOp ev' o).run P w = .ok (.value v') w ∧ Rel R v v' := by
 obtain ⟨dst, op, type, pos, after, guard⟩ := o
 unfold aquiet at he
 simp only at hev
 split at he
 case h_1 x heq =>
  simp only at heq; subst heq
  injection he with he; subst he
  exact ⟨_, by simp [execOp], hev x (by simp [Op.operands])⟩
 case h_2 x heq =>
  simp only at heq; subst heq
  injection he with he; subst he
  exact ⟨_, by simp [execOp], hev x (by simp [Op.operands])⟩
 case h_3 c a b heq =>
  simp only at heq; subst heq
  have hc := hev c (by simp [Op.operands])
  split at he
  ·rename_i q hq
   rw [hq] at hc
   generalize hc' : ev' c = qq at hc
   cases hc
   injection he with he; subst he
   refine ⟨if q then ev' a else ev' b, by cases q <;> simp [execOp, hc', asBool], ?_⟩
   cases q
   ·exact hev b (by simp [Op.operands])
   ·exact hev a (by simp [Op.operands])
  ·cases he
 case h_4 t a heq =>
  simp only at heq; subst heq
  obtain ⟨v', h1, h2⟩ := aload_ok (w := w) h (hev a (by simp [Op.operands])) he
  exact ⟨v', by simp [execOp, h1], h2⟩
 case h_5 t ps heq =>
  simp only at heq; subst heq
  obtain ⟨p1, p2⟩ := parts_rel (R := R) ps (fun x hx => hev x (by simpa [Op.operands] using hx))
  obtain ⟨v', h1, h2⟩ := abuild_ok (w := w) p1 p2 he
  exact ⟨v', by simp [execOp, h1], h2⟩
 case h_6 s x f heq =>
  simp only at heq; subst heq
  obtain ⟨v', h1, h2⟩ := afield_ok (w := w) (hev x (by simp [Op.operands])) he
  exact ⟨v', by simp [execOp, h1], h2⟩
 case h_7 t x i heq =>
  simp only at heq; subst heq
  have hi := hev i (by simp [Op.operands])
  have hii : ev' i = ev i := by
   have hl := he
   unfold aindex at hl
   split at hl
   ·rename_i e; exact (int_of_rel e hi)
   ·rename_i e; exact (int_of_rel e hi)
   ·cases hl
  obtain ⟨v', h1, h2⟩ := aindex_ok (w := w) (hev x (by simp [Op.operands])) he
  exact ⟨v', by simp [execOp, hii, h1], h2⟩
 case h_8 t x f heq =>
  simp only at heq; subst heq
  obtain ⟨v', h1, h2⟩ := afieldOf_ok (w := w) (hev x (by simp [Op.operands])) he
  exact ⟨v', by simp [execOp, h1], h2⟩
 case h_9 t x i heq =>
  simp only at heq; subst heq
  split at he
  ·have hi := hev i (by simp [Op.operands])
   have hii : ev' i = ev i := by
    have hl := he
    unfold aindexOf at hl
    split at hl
    ·rename_i e; exact (int_of_rel e hi)
    ·cases hl
   obtain ⟨v', h1, h2⟩ := aindexOf_ok (w := w) (hev x (by simp [Op.operands])) he
   exact ⟨v', by simp [execOp, hii, h1], h2⟩
  ·exact aground_ok (by simp) hev he
 case h_10 x i heq =>
  simp only at heq; subst heq
  have hx := hev x (by simp [Op.operands])
  split at he
  ·rename_i vs hvs
   rw [hvs] at hx
   generalize hq : ev' x = q at hx
   cases hx with
   | tuple _ c' h1 h2 =>
    have hlt := (Array.getElem?_eq_some_iff.1 he).1
    have hlt' : i < c'.size := by omega
    have := h2 i hlt
    refine ⟨c'[i], by simp [execOp, hq, Instr.extract, hlt'], ?_⟩
    simpa [he, hlt'] using this
  ·cases he
 case h_11 x heq =>
  simp only at heq; subst heq
  have hx := hev x (by simp [Op.operands])
  unfold anilCheck at he
  split at he
  ·rename_i e
   rw [e] at hx
   injection he with he; subst he
   generalize hq : ev' x = q at hx
   cases hx with
   | ptr _ _ p hp => exact ⟨_, by simp [execOp, hq], .ptr _ _ p hp⟩
  ·rename_i f a b e
   rw [e] at hx
   injection he with he; subst he
   generalize hq : ev' x = q at hx
   cases hx with
   | func _ _ _ f' c' k1 k2 k3 k4 => exact ⟨_, by simp [execOp, hq], .func _ _ _ _ _ k1 k2 k3 k4⟩
  ·cases he
 case h_12 fn f c heq =>
  simp only at heq; subst heq
  injection he with he; subst he
  have r1 := rels_map (R := R) f (fun x hx => hev x (by simp [Op.operands, hx]))
  have r2 := rels_map (R := R) c (fun x hx => hev x (by simp [Op.operands, hx]))
  exact ⟨_, by simp [execOp, Instr.makeFunc], .func _ _ _ _ _ r1.1 r1.2 r2.1 r2.2⟩
 case h_13 op' t x y yt heq =>
  simp only at heq; subst heq
  split at he
  ·rename_i u hu
   injection he with he; subst he
   obtain ⟨hr, hg⟩ := aint_ok (P := P) (w := w) (t := t) (hev x (by simp [Op.operands])) (hev y (by simp [Op.operands])) hu x y
   refine ⟨u, ?_, hg⟩
   simp only [execOp]
   simp only [Sem.run_bind] at hr ⊢
   simp only [hr, Result.andThen_ok]
   rfl
  split at he
  ·rename_i u hu
   injection he with he; subst he
   have hg : Rel R u u := by
    unfold anil at hu
    split at hu <;> first | (cases hb : bEq op' with | none => simp [hb] at hu | some b => simp [hb] at hu; subst hu; exact .bool b) | cases hu
   have hr := anil_ok (P := P) (w := w) (hev x (by simp [Op.operands])) (hev y (by simp [Op.operands])) hu x y
   refine ⟨u, ?_, hg⟩
   simp only [execOp]
   simp only [Sem.run_bind] at hr ⊢
   simp only [hr, Result.andThen_ok]
   rfl
  ·exact aground_ok (by simp) hev he
 case h_14 heq => simp only at heq; subst heq; exact aground_ok (by simp) hev he
 case h_15 heq => simp only at heq; subst heq; exact aground_ok (by simp) hev he
 case h_16 t x lo hi mx heq =>
  simp only at heq; subst heq
  split at he
  ·exact aground_ok (by simp) hev he
  ·cases mx with
   | some _ => cases he
   | none =>
    have opt : ∀ (q : Option Operand), (∀ y, q = some y → Rel R (ev y) (ev' y)) → ∀ k d, bnd d (q.map ev) = some k → q.map ev' = q.map ev := by
     intro q hq k d hb
     refine bnd_rel (R := R) (fun y hy => ?_) (fun hn => ?_) hb
     ·cases q with
      | none => simp at hy
      | some z => simp at hy; subst hy; exact ⟨ev' z, rfl, hq z rfl⟩
     ·cases q with
      | none => rfl
      | some z => simp at hn
    obtain ⟨v', h1, h2⟩ := aslice0_ok (w := w) (hev x (by simp [Op.operands])) (opt lo fun y hy => hev y (by simp [Op.operands, hy])) (opt hi fun y hy => hev y (by simp [Op.operands, hy])) he
    exact ⟨v', by simp [execOp, h1], h2⟩
 case h_17 c heq =>
  simp only at heq; subst heq
  obtain ⟨callee, args, argTypes⟩ := c
  simp only [Op.operands, Call.operands] at hev
  split at he
  ·rename_i x t e1 e2 e3
   simp only at e1 e2 e3; subst e1
   obtain rfl : args = #[x] := Array.toList_inj.1 e2
   obtain rfl : argTypes = #[t] := Array.toList_inj.1 e3
   split at he
   ·rename_i u hl
    injection he with he; subst he
    have hr := alen_ok (P := P) (w := w) (ty := type) (hev x (by simp)) hl
    have hg : Rel R u u := by
     unfold alen at hl
     split at hl
     ·cases hs : aSliceLen (ev x) with
      | none => simp [hs] at hl
      | some k => simp [hs] at hl; subst hl; exact .int _ _
     ·cases hl
    exact ⟨u, by simp [execOp, resolve, invoke, builtin, hr], hg⟩
   ·exact aground_ok (by simp) (by simpa [Op.operands, Call.operands] using hev) he
  ·exact aground_ok (by simp) (by simpa [Op.operands, Call.operands] using hev) he
  ·exact aground_ok (by simp) (by simpa [Op.operands, Call.operands] using hev) he
  ·cases he
 case h_18 t x k c heq =>
  simp only at heq; subst heq
  obtain ⟨v', h1, h2⟩ := alookup_ok (w := w) h (hev x (by simp [Op.operands])) (hev k (by simp [Op.operands])) he
  exact ⟨v', by simp [execOp, h1], h2⟩
 case h_19 => cases he
theorem aloud_ok (h : MRep base R m w) (hbase : base ≤ w.heap.size) {o : Oper} (hnew : needsNew o.op = true → m[n]? = some none ∧ R n = none) {ev ev' : Operand → Value} {v : Value} {m' : AM} (hev : ∀ x ∈ o.op.operands, Rel R (ev x) (ev' x))
  (he : aloud P o ev m n = some (v, m')) : Does P base R m n w (execOp ev' o) v m' := by
 obtain ⟨dst, op, type, pos, after, guard⟩ := o
 unfold aloud at he
 simp only at hev hnew
 split at he
 case h_1 t a x heq =>
  simp only at heq; subst heq
  cases hl : astore P m t (ev a) (ev x) with
  | none => rw [hl] at he; cases he
  | some u =>
   rw [hl] at he
   simp only [Option.map_some, Option.some.injEq, Prod.mk.injEq] at he
   obtain ⟨rfl, rfl⟩ := he
   obtain ⟨w', h1, h2⟩ := astore_ok (w := w) h (hev a (by simp [Op.operands])) (hev x (by simp [Op.operands])) hl
   exact ⟨R, undef, w', .inr ⟨by simp [execOp, h1], rfl⟩, .undef R, h2, fun _ _ => rfl⟩
 case h_2 t heq =>
  simp only at heq; subst heq
  obtain ⟨hfree, hR⟩ := hnew rfl
  cases hl : zeroB P t with
  | none => rw [hl] at he; cases he
  | some z =>
   rw [hl] at he
   simp only [Option.map_some, Option.some.injEq, Prod.mk.injEq] at he
   obtain ⟨rfl, rfl⟩ := he
   obtain ⟨hg, i, zz, h1, h2, h3, h4⟩ := zeroB_run hl
   obtain ⟨q1, q2⟩ := g0one_rel (R := R) hg
   refine set_new h hbase hfree hR t q1 q2 ?_ (rel_new _)
   subst h3
   simp [execOp, Instr.alloc, h4, newVar, newRow]
 case h_3 t x heq =>
  simp only at heq; subst heq
  obtain ⟨hfree, hR⟩ := hnew rfl
  split at he
  ·rename_i hone
   simp only [Option.some.injEq, Prod.mk.injEq] at he
   obtain ⟨rfl, rfl⟩ := he
   refine set_new h hbase hfree hR t (hev x (by simp [Op.operands])).cells.relL (allOne hone) ?_ (rel_new _)
   simp [execOp, Instr.box, newVar, newRow]
  ·cases he
 case h_4 t l ps heq =>
  simp only at heq; subst heq
  obtain ⟨hfree, hR⟩ := hnew rfl
  obtain ⟨p1, p2⟩ := parts_rel (R := R) ps (fun x hx => hev x (by simpa [Op.operands] using hx))
  exact abuildSlice_ok h hbase hfree hR p1 p2 he (fun v w' hr => by simp [execOp, hr])
 case h_5 t l c heq =>
  simp only at heq; subst heq
  obtain ⟨hfree, hR⟩ := hnew rfl
  exact amake_ok h hbase hfree hR (hev l (by simp [Op.operands])) (hev c (by simp [Op.operands])) he (fun v w' hr => by simp [execOp, hr])
 case h_6 t x lo hi mx heq =>
  simp only at heq; subst heq
  obtain ⟨hfree, hR⟩ := hnew rfl
  have opt : ∀ (q : Option Operand), (∀ y, q = some y → Rel R (ev y) (ev' y)) → ∀ k d, bnd d (q.map ev) = some k → q.map ev' = q.map ev := by
   intro q hq k d hb
   refine bnd_rel (R := R) (fun y hy => ?_) (fun hn => ?_) hb
   ·cases q with
    | none => simp at hy
    | some z => simp at hy; subst hy; exact ⟨ev' z, rfl, hq z rfl⟩
   ·cases q with
    | none => rfl
    | some z => simp at hn
  refine aslice_ok h hfree hR (hev x (by simp [Op.operands])) (opt lo fun y hy => hev y (by simp [Op.operands, hy])) (opt hi fun y hy => hev y (by simp [Op.operands, hy]))
   ⟨fun hn => by cases mx <;> simp_all, opt mx fun y hy => hev y (by simp [Op.operands, hy])⟩ he (fun v hr => by simp [execOp, hr])
 case h_7 c heq =>
  simp only at heq; subst heq
  obtain ⟨callee, args, argTypes⟩ := c
  simp only [Op.operands, Call.operands] at hev
  split at he
  ·rename_i s x t tx e1 e2 e3
   simp only at e1 e2 e3; subst e1
   obtain ⟨hfree, hR⟩ := hnew rfl
   obtain rfl : args = #[s, x] := Array.toList_inj.1 e2
   obtain rfl : argTypes = #[t, tx] := Array.toList_inj.1 e3
   exact aappend_ok (ty := type) h hbase hfree hR (hev s (by simp)) (hev x (by simp)) he (fun v w' hr => by simp [execOp, resolve, invoke, builtin, hr])
  ·rename_i d x t tx e1 e2 e3
   simp only at e1 e2 e3; subst e1
   obtain rfl : args = #[d, x] := Array.toList_inj.1 e2
   obtain rfl : argTypes = #[t, tx] := Array.toList_inj.1 e3
   obtain ⟨w', hr, hp⟩ := acopy_ok (ty := type) (tx := tx) (w := w) h (hev d (by simp)) (hev x (by simp)) he
   refine ⟨R, v, w', .inl (by simp [execOp, resolve, invoke, builtin, hr]), ?_, hp, fun _ _ => rfl⟩
   unfold acopy at he
   split at he
   ·split at he
    ·split at he
     ·simp only [Option.some.injEq, Prod.mk.injEq] at he
      obtain ⟨rfl, _⟩ := he
      exact .int _ _
     ·cases he
    ·cases he
   ·cases he
  ·rename_i x t e1 e2 e3
   simp only at e1 e2 e3; subst e1
   obtain rfl : args = #[x] := Array.toList_inj.1 e2
   obtain rfl : argTypes = #[t] := Array.toList_inj.1 e3
   obtain ⟨w', hr, hp⟩ := aclear_ok (ty := type) (w := w) h (hev x (by simp)) he
   refine ⟨R, v, w', .inl (by simp [execOp, resolve, invoke, builtin, hr]), ?_, hp, fun _ _ => rfl⟩
   have : v = undef := by
    unfold aclear at he
    split at he
    ·simp only [Option.some.injEq, Prod.mk.injEq] at he; exact he.1.symm
    ·split at he
     ·simp only [Option.some.injEq, Prod.mk.injEq] at he; exact he.1.symm
     ·split at he
      ·split at he
       ·simp only [Option.some.injEq, Prod.mk.injEq] at he; exact he.1.symm
       ·cases he
      ·cases he
    ·cases he
   rw [this]; exact .undef R
  ·cases he
 case h_8 t r heq =>
  simp only at heq; subst heq
  obtain ⟨hfree, hR⟩ := hnew rfl
  split at he
  ·simp only [Option.some.injEq, Prod.mk.injEq] at he
   obtain ⟨rfl, rfl⟩ := he
   refine ⟨_, .map (some w.heap.size), _, .inl ?_, ?_, makeMap_ok h hbase hfree hR, fun i hi => Pl.put_other _ _ hi⟩
   ·simp [execOp, Instr.makeMap, newObj, Sem.run, Result.andThen]
   ·exact .mapAt n ⟨w.heap.size, 0, 0⟩ (Pl.put_same _ _ _)
  ·cases he
 case h_9 t x k v' heq =>
  simp only at heq; subst heq
  cases hl : amapUpdate P m t (ev x) (ev k) (ev v') with
  | none => rw [hl] at he; cases he
  | some u =>
   rw [hl] at he
   simp only [Option.map_some, Option.some.injEq, Prod.mk.injEq] at he
   obtain ⟨rfl, rfl⟩ := he
   obtain ⟨w', h1, h2⟩ := amapUpdate_ok (w := w) h (hev x (by simp [Op.operands])) (hev k (by simp [Op.operands])) (hev v' (by simp [Op.operands])) hl
   exact ⟨R, undef, w', .inr ⟨by simp [execOp, h1], rfl⟩, .undef R, h2, fun _ _ => rfl⟩
 case h_10 => cases he
end
section
variable {P : Program} {base : Nat} {R : Pl} {m : AM} {w : World} {n : Nat}
inductive Tr
 | leaf
 | node (v : Value) (l r : Tr)
def Tr.get : Tr → Nat → Value
 | .leaf, _ => undef
 | .node v l r, i => if Nat.beq i 0 then v else if Nat.beq (i % 2) 1 then l.get (i / 2) else r.get (i / 2 - 1)
def Tr.put : Nat → Tr → Nat → Value → Tr
 | 0, t, _, _ => t
 | f + 1, .leaf, i, x => if Nat.beq i 0 then .node x .leaf .leaf else if Nat.beq (i % 2) 1 then .node undef (Tr.put f .leaf (i / 2) x) .leaf else .node undef .leaf (Tr.put f .leaf (i / 2 - 1) x)
 | f + 1, .node v l r, i, x => if Nat.beq i 0 then .node x l r else if Nat.beq (i % 2) 1 then .node v (Tr.put f l (i / 2) x) r else .node v l (Tr.put f r (i / 2 - 1) x)
theorem beq_nat (a b : Nat) : (Nat.beq a b = true) ↔ a = b := by simp
theorem Tr.get_put : ∀ (f : Nat) (t : Tr) (i j : Nat) (x : Value), i < f → (Tr.put f t i x).get j = if j = i then x else t.get j := by
 intro f
 induction f with
 | zero => intro t i j x h; omega
 | succ f ih =>
  intro t i j x h
  cases t with
  | leaf =>
   simp only [Tr.put, beq_nat]
   by_cases hi : i = 0
   ·subst hi
    rw [if_pos rfl]
    simp only [Tr.get, beq_nat]
    by_cases hj : j = 0
    ·simp [hj]
    ·simp [hj]
   ·rw [if_neg hi]
    by_cases ho : i % 2 = 1
    ·rw [if_pos ho]
     simp only [Tr.get, beq_nat]
     by_cases hj : j = 0
     ·subst hj; simp; omega
     ·rw [if_neg hj]
      by_cases hp : j % 2 = 1
      ·rw [if_pos hp, ih _ _ _ _ (by omega)]
       by_cases e : j = i
       ·subst e; simp
       ·rw [if_neg e, if_neg (by omega)]; simp [Tr.get]
      ·rw [if_neg hp, if_neg (fun e => hp (by rw [e]; exact ho))]
    ·rw [if_neg ho]
     simp only [Tr.get, beq_nat]
     by_cases hj : j = 0
     ·subst hj; simp; omega
     ·rw [if_neg hj]
      by_cases hp : j % 2 = 1
      ·rw [if_pos hp, if_neg (fun e => ho (by rw [← e]; exact hp))]
      ·rw [if_neg hp, ih _ _ _ _ (by omega)]
       by_cases e : j = i
       ·subst e; simp
       ·rw [if_neg e, if_neg (by omega)]; simp [Tr.get]
  | node v l r =>
   simp only [Tr.put, beq_nat]
   by_cases hi : i = 0
   ·subst hi
    rw [if_pos rfl]
    simp only [Tr.get, beq_nat]
    by_cases hj : j = 0
    ·simp [hj]
    ·simp [hj]
   ·rw [if_neg hi]
    by_cases ho : i % 2 = 1
    ·rw [if_pos ho]
     simp only [Tr.get, beq_nat]
     by_cases hj : j = 0
     ·subst hj; simp; omega
     ·rw [if_neg hj, if_neg hj]
      by_cases hp : j % 2 = 1
      ·rw [if_pos hp, if_pos hp, ih _ _ _ _ (by omega)]
       by_cases e : j = i
       ·subst e; simp
       ·rw [if_neg e, if_neg (by omega)]
      ·rw [if_neg hp, if_neg hp, if_neg (fun e => hp (by rw [e]; exact ho))]
    ·rw [if_neg ho]
     simp only [Tr.get, beq_nat]
     by_cases hj : j = 0
     ·subst hj; simp; omega
     ·rw [if_neg hj, if_neg hj]
      by_cases hp : j % 2 = 1
      ·rw [if_pos hp, if_pos hp, if_neg (fun e => ho (by rw [← e]; exact hp))]
      ·rw [if_neg hp, if_neg hp, ih _ _ _ _ (by omega)]
       by_cases e : j = i
       ·subst e; simp
       ·rw [if_neg e, if_neg (by omega)]
section force
variable {β : Type}
end force
structure Fr where
 size : Nat
 tr : Tr
def Fr.get (t : Fr) (i : Nat) : Value := t.tr.get i
def Fr.set (t : Fr) (i : Nat) (v : Value) : Fr := if Nat.blt i t.size then { t with tr := Tr.put (i + 1) t.tr i v } else t
def FRels (R : Pl) (t : Fr) (u : Array Value) : Prop := t.size = u.size ∧ ∀ i, Rel R (t.get i) (u.getD i undef)
theorem FRels.mono {R R' : Pl} {t : Fr} {u : Array Value} (h : FRels R t u) (hR : R.le R') : FRels R' t u := ⟨h.1, fun i => (h.2 i).mono hR⟩
theorem FRels.set {R : Pl} {t : Fr} {u : Array Value} (h : FRels R t u) (i : Nat) {v v' : Value} (hv : Rel R v v') : FRels R (t.set i v) (u.setIfInBounds i v') := by
 obtain ⟨h1, h2⟩ := h
 unfold Fr.set
 by_cases hi : i < t.size
 ·rw [if_pos (by rw [Nat.blt_eq]; exact hi)]
  refine ⟨by simpa using h1, fun j => ?_⟩
  show Rel R ((Tr.put (i + 1) t.tr i v).get j) _
  rw [Tr.get_put _ _ _ _ _ (by omega)]
  by_cases e : j = i
  ·subst e
   have : j < u.size := by omega
   simpa [this] using hv
  ·rw [if_neg e]
   have := h2 j
   simp only [Array.getD_eq_getD_getElem?, Array.getElem?_setIfInBounds_ne (fun x => e x.symm : i ≠ j)] at this ⊢
   exact this
 ·rw [if_neg (by rw [Nat.blt_eq]; exact hi)]
  refine ⟨by simpa using h1, fun j => ?_⟩
  have : u.setIfInBounds i v' = u := by
   apply Array.ext_getElem?
   intro k
   rw [Array.getElem?_setIfInBounds]
   split
   ·subst_vars; rw [if_neg (by omega), Array.getElem?_eq_none (by omega)]
   ·rfl
  rw [this]; exact h2 j
def Fr.fill : Fr → Nat → List Value → Fr
 | t, _, [] => t
 | t, i, v :: l => (t.set i v).fill (i + 1) l
def Fr.start (n : Nat) (args : Array Value) : Fr := Fr.fill ⟨n, .leaf⟩ 0 args.toList
theorem FRels.fill {R : Pl} : ∀ (l l' : List Value) (t : Fr) (u : Array Value) (i : Nat), FRels R t u → RelL R l l' → FRels R (t.fill i l) ((l'.zipIdx i).foldl (fun u (x, j) => u.setIfInBounds j x) u)
 | [], [], t, u, i, h, _ => h
 | [], _ :: _, _, _, _, _, hl => by have := hl.1; simp at this
 | _ :: _, [], _, _, _, _, hl => by have := hl.1; simp at this
 | v :: l, v' :: l', t, u, i, h, hl => by
  simp only [Fr.fill, List.zipIdx_cons, List.foldl_cons]
  refine FRels.fill l l' _ _ (i + 1) (h.set i ?_) ⟨by simpa using hl.1, fun j u hj => hl.2 (j + 1) u (by simpa using hj)⟩
  obtain ⟨x, h1, h2⟩ := hl.2 0 v rfl
  simp at h1; subst h1; exact h2
theorem foldl_set_get : ∀ (l : List Value) (i : Nat) (u : Array Value) (k : Nat), ((l.zipIdx i).foldl (fun u (x, j) => u.setIfInBounds j x) u)[k]? = if k < u.size then (if i ≤ k ∧ k < i + l.length then l[k - i]? else u[k]?) else none
 | [], i, u, k => by
  simp only [List.zipIdx_nil, List.foldl_nil, List.length_nil]
  by_cases hk : k < u.size
  ·rw [if_pos hk, if_neg (by omega)]
  ·rw [if_neg hk, Array.getElem?_eq_none (by omega)]
 | v :: l, i, u, k => by
  simp only [List.zipIdx_cons, List.foldl_cons]
  rw [foldl_set_get l (i + 1) _ k]
  simp only [Array.size_setIfInBounds, List.length_cons]
  by_cases hk : k < u.size
  ·rw [if_pos hk, if_pos hk]
   by_cases h1 : i + 1 ≤ k ∧ k < i + 1 + l.length
   ·rw [if_pos h1, if_pos (by omega), show k - i = (k - (i + 1)) + 1 by omega, List.getElem?_cons_succ]
   ·rw [if_neg h1, Array.getElem?_setIfInBounds]
    by_cases h2 : i = k
    ·subst h2
     rw [if_pos rfl, if_pos hk, if_pos (by omega)]
     simp
    ·rw [if_neg h2, if_neg (by omega)]
  ·rw [if_neg hk, if_neg hk]
theorem FRels.start {R : Pl} {args args' : Array Value} {n : Nat} (h : Rels R args args') (hn : args.size ≤ n) : FRels R (Fr.start n args) (args' ++ Array.replicate (n - args'.size) undef) := by
 have h0 : FRels R ⟨n, .leaf⟩ (Array.replicate n undef) := ⟨by simp, fun i => by
  have e : (Array.replicate n undef).getD i undef = undef := by by_cases hi : i < n <;> simp [hi]
  rw [e]; exact Rel.undef R⟩
 have h1 := FRels.fill args.toList args'.toList _ _ 0 h0 h.relL
 have hs := h.1
 have e : (args'.toList.zipIdx 0).foldl (fun u (x, j) => u.setIfInBounds j x) (Array.replicate n undef) = args' ++ Array.replicate (n - args'.size) undef := by
  apply Array.ext_getElem?
  intro k
  rw [foldl_set_get, Array.getElem?_append]
  simp only [Array.size_replicate, Array.length_toList, Nat.zero_add, Nat.zero_le, true_and, Nat.sub_zero]
  by_cases hk : k < n
  ·rw [if_pos hk]
   by_cases h2 : k < args'.size
   ·rw [if_pos h2, if_pos h2]; simp
   ·rw [if_neg h2, if_neg h2, Array.getElem?_replicate, Array.getElem?_replicate, if_pos hk, if_pos (by omega)]
  ·rw [if_neg hk, if_neg (by omega), Array.getElem?_replicate, if_neg (by omega)]
 rw [e] at h1
 exact h1
theorem put_defers (a : Act) (d : Option Tmp) (v : Value) : (a.put d v).defers = a.defers := by cases d <;> rfl
def Fresh (m : AM) (R R' : Pl) : Prop := ∀ j, j < m.length → R' j = R j
structure Fit (P : Program) : Prop where
 names : ∀ (f : FuncId) (fn : Func), P.funcs[f]? = some fn → (fn.name == "runtime.NumGoroutine") = false
 mixed : P.follows .mixedOrders = true
theorem rels_app {c c' d d' : Array Value} (h : Rels R c c') (g : Rels R d d') : Rels R (c ++ d) (c' ++ d') := by
 have := (h.relL.app g.relL).rels
 have e1 : (c.toList ++ d.toList).toArray = c ++ d := by apply Array.ext'; simp
 have e2 : (c'.toList ++ d'.toList).toArray = c' ++ d' := by apply Array.ext'; simp
 rwa [e1, e2] at this
def ExtBut (n : Nat) (m m' : AM) : Prop := m.length ≤ m'.length ∧ ∀ (j : Nat) (c : Blk), j < m.length → j ≠ n → m'[j]? = some (some c) → ∃ c0 : Blk, m[j]? = some (some c0) ∧ c.kind = c0.kind
def Ext (m m' : AM) : Prop := m.length ≤ m'.length ∧ ∀ (j : Nat) (c : Blk), j < m.length → m'[j]? = some (some c) → ∃ c0 : Blk, m[j]? = some (some c0) ∧ c.kind = c0.kind
theorem ExtBut.refl : ExtBut n m m := ⟨Nat.le_refl _, fun j c _ _ h => ⟨c, h, rfl⟩⟩
theorem Ext.refl : Ext m m := ⟨Nat.le_refl _, fun j c _ h => ⟨c, h, rfl⟩⟩
theorem Ext.trans {m1 m2 : AM} (h : Ext m m1) (k : Ext m1 m2) : Ext m m2 := ⟨Nat.le_trans h.1 k.1, fun j c hj hc => by
 obtain ⟨c1, h1, h2⟩ := k.2 j c (Nat.lt_of_lt_of_le hj h.1) hc
 obtain ⟨c2, h3, h4⟩ := h.2 j c1 hj h1
 exact ⟨c2, h3, h2.trans h4⟩⟩
theorem pad_one : (m ++ [none])[m.length]? = some none := by simp
theorem wp_of_does {s : Sem Next} {o : Oper} {a : Act} {next : Act → World → Prop} {Q : Exit → Act → World → Prop} {v' : Value} {w' : World} (hs : execOp a.eval o = s) (hr : Ran P s w v' w') (h : next (a.put o.dst v') w') : o.wp P a w next Q := by
 unfold Oper.wp
 rw [hs]
 rcases hr with hr | ⟨hr, rfl⟩
 ·rw [hr]; exact h
 ·rw [hr]; exact h
theorem run_enter {f : FuncId} {fn : Func} {c : Code} (hf : P.funcs[f]? = some fn) (hname : (fn.name == "runtime.NumGoroutine") = false) (hb : fn.body = some c) (args : Array Value) (w : World) :
  (callFunc f args).run P w = .ok (.enter f args) w := by
 have h1 : fn.name ≠ "runtime.NumGoroutine" := by simpa using hname
 simp [callFunc, hf, h1, hb]
theorem Fresh.trans {m1 : AM} {R1 R2 : Pl} (h : Fresh m R R1) (k : Fresh m1 R1 R2) (hl : m.length ≤ m1.length) : Fresh m R R2 := fun j hj => (k j (by omega)).trans (h j hj)
theorem Fresh.refl : Fresh m R R := fun _ _ => rfl
end
section
variable {P : Program} {base : Nat} {R : Pl} {m : AM} {w : World} {n : Nat}
def Blk.roed (b : Blk) : Blk :=
 match b.kind with
 | .own => { b with kind := .ro, size := 0 }
 | .grow => { b with kind := .ro, size := 1 }
 | .map => { b with kind := .rom }
 | .str => { b with kind := .ro, size := 1 }
 | _ => b
theorem BRep.roed {b : Blk} {p : Place} (h : BRep base R b p w) : BRep base R b.roed p w := by
 have hc : ∀ (j : Nat) (v : Value), b.cells[j]? = some v → ∃ v', w.cell? ⟨p.block, p.off + j, none⟩ = some v' ∧ Rel R v v' := fun j v hj => h.cell hj
 unfold Blk.roed
 split
 ·rename_i hk
  refine ⟨h.1, fun _ => ?_, hc⟩
  obtain ⟨_, h⟩ := h
  rw [hk] at h
  obtain ⟨_, _, _, _, _, h4, _⟩ := h
  exact h4 rfl
 ·rename_i hk
  exact ⟨h.1, (fun e => by simp at e), hc⟩
 ·rename_i hk
  obtain ⟨h0, h⟩ := h
  rw [hk] at h
  exact ⟨h0, h.1, h.2.1, h.2.2.2⟩
 ·rename_i hk
  exact ⟨h.1, (fun e => by simp at e), hc⟩
 ·exact h
def mapFrom {α β : Type} (f : Nat → α → β) : Nat → List α → List β
 | _, [] => []
 | i, a :: l => f i a :: mapFrom f (i + 1) l
def workM (W : List Nat) (k : Nat) (m : AM) : AM := mapFrom (fun i b => if W.contains i then b else b.map Blk.roed) 0 m ++ List.replicate k none
end
section
variable {P : Program} {base : Nat} {R : Pl} {m : AM} {w : World} {n : Nat}
def Lst (ops : Array Oper) (L : Nat) (listed : Array Bool) : Prop := listed.size = ops.size ∧ ∀ j, listed.getD j false = L.testBit j
theorem Lst.set {ops : Array Oper} {L : Nat} {listed : Array Bool} (h : Lst ops L listed) {i : Nat} (hi : i < ops.size) : Lst ops (L ||| 2 ^ i) (listed.setIfInBounds i true) := by
 refine ⟨by simpa using h.1, fun j => ?_⟩
 rw [Nat.testBit_or, Nat.testBit_two_pow]
 by_cases e : i = j
 ·subst e
  have := h.1
  simp [show i < listed.size by omega]
 ·rw [getD_set_ne false e, h.2 j]
  simp [e]
def Waits (ops : Array Oper) (N : Nat) (listed : Array Bool) (m : AM) (R : Pl) : Prop := ∀ i, i < ops.size → listed.getD i false = false → m[N + i]? = some none ∧ R (N + i) = none
theorem ExtBut.none_ {m' : AM} (h : ExtBut n m m') {j : Nat} (hne : j ≠ n) (hj : m[j]? = some none) : m'[j]? = some none := by
 have hl : j < m.length := (List.getElem?_eq_some_iff.1 hj).1
 have hl' : j < m'.length := Nat.lt_of_lt_of_le hl h.1
 cases hm : m'[j]'hl' with
 | none => rw [List.getElem?_eq_getElem hl', hm]
 | some c =>
  obtain ⟨c0, h1, _⟩ := h.2 j c hl hne (by rw [List.getElem?_eq_getElem hl', hm])
  rw [hj] at h1; cases h1
structure Mid (P : Program) (base : Nat) (ops : Array Oper) (W : List Nat) (m0 : AM) (R0 : Pl) (w0 : World) (d0 : List Deferred) (L : Nat) (listed : Array Bool) (t : Fr) (m : AM) (R : Pl) (a : Act) (w : World) : Prop where
 lst : Lst ops L listed
 post : Post base (workM W ops.size m0) m R0 R w0 w
 fresh : Fresh m0 R0 R
 ext : ∀ (j : Nat) (c : Blk), j < m0.length → m[j]? = some (some c) → ∃ c0 : Blk, (workM W ops.size m0)[j]? = some (some c0) ∧ c.kind = c0.kind
 len : m0.length + ops.size ≤ m.length
 tmps : FRels R t a.tmps
 defers : a.defers = d0
 waits : Waits ops m0.length listed m R
end
section
variable {P : Program} {base : Nat} {R : Pl} {m : AM} {w : World}
def Leaves (base : Nat) (R : Pl) (m : AM) (a : Act) (w : World) (t' : Fr) (m' : AM) (a' : Act) (w' : World) : Prop :=
 a'.defers = a.defers ∧ ∃ R', FRels R' t' a'.tmps ∧ Post base m m' R R' w w' ∧ Fresh m R R'
inductive AEx | normal | exit (id : Nat) | ret
def AEx.to : AEx → Exit
 | .normal => .normal
 | .exit id => .exit id
 | .ret => .ret
def res1 (u : Array Value) : ResultVar → Sem Value
 | .tmp t => pure (u.getD t undef)
 | .cell a ty => do loadVar ty (← asAddr (u.getD a undef))
theorem results_eq (fn : Func) (u : Array Value) : results fn u = (do let vs ← (List.toArray <$> fn.results.toList.mapM (res1 u)); pure (if h : vs.size = 1 then vs[0] else .tuple vs)) := by
 unfold results
 have e : fn.results = fn.results.toList.toArray := by simp
 rw [e]
 simp only [List.mapM_toArray]
 congr 2
theorem Leaves.trans {t : Fr} {m' m'' : AM} {a a' a'' : Act} {w' w'' : World} {R' : Pl} (hp : Post base m m' R R' w w') (hd : a'.defers = a.defers) (hf : Fresh m R R') (hl : m.length ≤ m'.length) (h : Leaves base R' m' a' w' t m'' a'' w'') :
  Leaves base R m a w t m'' a'' w'' := by
 obtain ⟨h1, R2, h2, h3, h4⟩ := h
 exact ⟨h1.trans hd, R2, h2, hp.trans h3, hf.trans h4 hl⟩
end
end Go.Proofs.YtedbjmgchfgabaaDoor.Sim
namespace Go.Proofs.YtedbjmgchfgabaaDoor.Abs
set_option linter.unusedSimpArgs false
set_option linter.unusedVariables false
open Go.RowKit
open Go.Proofs.YtedbjmgchfgabaaDoor.Sim
abbrev Fm := Nat → Option Value
def put (t : Fm) (d : Nat) (v : Value) : Fm := fun j => cond (Nat.beq j d) (some v) (t j)
def putO (t : Fm) (d : Option Tmp) (v : Value) : Fm := match d with
 | some d => put t d v
 | none => t
def fr : List (Nat × Value) → Fm
 | [] => fun _ => none
 | (d, v) :: l => put (fr l) d v
structure FR (R : Pl) (n : Nat) (t : Fm) (u : Array Value) : Prop where
 size : u.size = n
 rel : ∀ i v, t i = some v → Rel R v (u.getD i undef)
section
variable {P : Program} {base n nt : Nat} {R R' : Pl} {m : AM} {w : World} {t t1 : Fm} {u : Array Value} {ops : Array Oper}
theorem FR.mono (h : FR R n t u) (hR : R.le R') : FR R' n t u := ⟨h.size, fun i v hi => (h.rel i v hi).mono hR⟩
theorem FR.weak (h : FR R n t u) (hs : ∀ i v, t1 i = some v → t i = some v) : FR R n t1 u := ⟨h.size, fun i v hi => h.rel i v (hs i v hi)⟩
theorem put_same (t : Fm) (d : Nat) (v : Value) : put t d v d = some v := by simp [put]
theorem put_ne (t : Fm) {d j : Nat} (v : Value) (h : j ≠ d) : put t d v j = t j := by
 have : Nat.beq j d = false := by
  cases e : Nat.beq j d with
  | false => rfl
  | true => exact absurd (Nat.eq_of_beq_eq_true e) h
 simp [put, this]
theorem put_comm (t : Fm) {d e : Nat} (v x : Value) (h : d ≠ e) : put (put t d v) e x = put (put t e x) d v := by
 funext j
 by_cases h1 : j = d
 ·subst h1; rw [put_ne _ _ h, put_same, put_same]
 ·by_cases h2 : j = e
  ·subst h2; rw [put_same, put_ne _ _ h1, put_same]
  ·rw [put_ne _ _ h2, put_ne _ _ h1, put_ne _ _ h1, put_ne _ _ h2]
theorem FR.put (h : FR R n t u) {d : Nat} (hd : d < n) {v v' : Value} (hv : Rel R v v') : FR R n (put t d v) (u.setIfInBounds d v') := by
 have hs := h.size
 refine ⟨by simpa using hs, fun i x hi => ?_⟩
 by_cases e : i = d
 ·subst e
  rw [put_same] at hi
  injection hi with hi; subst hi
  simp [show i < u.size by omega, hv]
 ·rw [put_ne _ _ e] at hi
  have := h.rel i x hi
  simp only [Array.getD_eq_getD_getElem?] at this ⊢
  rw [Array.getElem?_setIfInBounds_ne (Ne.symm e)]
  exact this
theorem FR.putO {a : Act} (h : FR R n t a.tmps) {d : Option Tmp} (hd : ∀ e, d = some e → e < n) {v v' : Value} (hv : Rel R v v') : FR R n (putO t d v) (a.put d v').tmps := by
 cases d with
 | none => exact h
 | some d => exact h.put (hd d rfl) hv
def evo (t : Fm) : Operand → Option Value
 | .tmp i => t i
 | .const v => if g1 v then some v else none
 | .func f => some (.func (.func f) #[] #[])
 | .global _ => none
theorem evo_rel {a : Act} (h : FR R n t a.tmps) {x : Operand} {v : Value} (hx : evo t x = some v) : Rel R v (a.eval x) := by
 cases x with
 | tmp i => exact h.rel i v hx
 | const c =>
  simp only [evo] at hx
  split at hx
  ·rename_i hg
   injection hx with hx; subst hx
   exact g1_rel hg
  ·cases hx
 | global g => cases hx
 | func f =>
  simp only [evo, Option.some.injEq] at hx
  subst hx
  exact g1_rel (v := .func (.func f) #[] #[]) rfl
def Kn (t : Fm) (o : Oper) (ev : Operand → Value) : Prop := ∀ x ∈ o.op.operands, evo t x = some (ev x)
def stillB (P : Program) : Op → Bool
 | .move _ | .assign _ | .pick .. | .load .. | .build .. | .fieldAddr .. | .indexAddr .. | .field .. | .index .. | .extract .. | .nilCheck _ | .makeFunc .. | .binOp .. | .unOp .. => true
 | .lookup t .. => match P.underlying t with
  | some (.map k _) => match P.underlying k with
   | some (.struct _) => false
   | _ => true
  | _ => true
 | .convert s d _ => match P.underlying s, P.underlying d with
  | some (.int _), some (.int _) => true
  | _, _ => false
 | .slice t _ lo _ mx => match P.underlying t with
  | some (.slice _) => lo.isNone && mx.isNone
  | _ => false
 | .call c => match c.callee with
  | .builtin .len | .builtin .min | .builtin .max => true
  | _ => false
 | _ => false
def pureB (P : Program) (o : Op) : Bool := stillB P o && match o with | .load .. | .lookup .. => false | _ => true
def Loud (P : Program) (o : Oper) (ev : Operand → Value) (m : AM) (K : Value → AM → Prop) : Prop :=
 ∀ (base : Nat) (R : Pl) (w : World) (a : Act) (Q : Exit → Act → World → Prop) (next : Act → World → Prop), base ≤ w.heap.size → MRep base R m w → (∀ x ∈ o.op.operands, Rel R (ev x) (a.eval x)) →
  (∀ R' v v' m' w', Rel R' v v' → Post base m m' R R' w w' → K v m' → next (a.put o.dst v') w') → o.wp P a w next Q
def AOp (P : Program) (o : Oper) (ev : Operand → Value) (m : AM) (K : Value → AM → Prop) : Prop :=
 (∃ v, aquiet P o ev m = some v ∧ K v m) ∨ (stillB P o.op = false ∧ Loud P o ev m K)
theorem AOp.loud {o : Oper} {ev : Operand → Value} {K : Value → AM → Prop} (h : AOp P o ev m K) : Loud P o ev m K := by
 rcases h with ⟨v, h1, h2⟩ | ⟨_, h⟩
 ·intro base R w a Q next hb hm hev hn
  obtain ⟨v', k1, k2⟩ := aquiet_ok (P := P) (w := w) (ev' := a.eval) hm.held hev h1
  exact wp_of_does rfl (.inl k1) (hn R v v' m w k2 (.refl hm) h2)
 ·exact h
theorem Loud.mono {o : Oper} {ev : Operand → Value} {K K' : Value → AM → Prop} (h : Loud P o ev m K) (hk : ∀ v m', K v m' → K' v m') : Loud P o ev m K' :=
 fun base R w a Q next hb hm hev hn => h base R w a Q next hb hm hev fun R' v v' m' w' h1 h2 h3 => hn R' v v' m' w' h1 h2 (hk _ _ h3)
theorem AOp.mono {o : Oper} {ev : Operand → Value} {K K' : Value → AM → Prop} (h : AOp P o ev m K) (hk : ∀ v m', K v m' → K' v m') : AOp P o ev m K' := by
 rcases h with ⟨v, h1, h2⟩ | ⟨h1, h2⟩
 ·exact .inl ⟨v, h1, hk _ _ h2⟩
 ·exact .inr ⟨h1, h2.mono hk⟩
theorem loud_of_aloud {o : Oper} {ev : Operand → Value} {K : Value → AM → Prop} {v : Value} {m' : AM} (hn : needsNew o.op = true) (h : aloud P o ev (m ++ [none]) m.length = some (v, m')) (hK : K v m') : Loud P o ev m K := by
 intro base R w a Q next hb hm hev hnx
 have hp := hm.pad 1
 obtain ⟨R', v', w', k1, k2, k3, k4⟩ := aloud_ok (n := m.length) hp hb (fun _ => ⟨pad_one, hm.none_ _ (Nat.le_refl _)⟩) hev h
 exact wp_of_does rfl k1 (hnx R' v v' m' w' k2 ⟨k3.le, k3.rep, k3.os, k3.tape, k3.output, k3.size, fun k hk ho => k3.keep k hk fun ho' => ho ho'.pad, fun k ho => (k3.sub k ho).imp id Owned.pad⟩ hK)
theorem loud_of_aloud0 {o : Oper} {ev : Operand → Value} {K : Value → AM → Prop} {v : Value} {m' : AM} (hn : needsNew o.op = false) (h : aloud P o ev m 0 = some (v, m')) (hK : K v m') : Loud P o ev m K := by
 intro base R w a Q next hb hm hev hnx
 obtain ⟨R', v', w', k1, k2, k3, k4⟩ := aloud_ok (n := 0) hm hb (fun x => by rw [hn] at x; cases x) hev h
 exact wp_of_does rfl k1 (hnx R' v v' m' w' k2 k3 hK)
def gval (ops : Array Oper) (t : Fm) (j : Nat) : Option Value := match (ops[j]?).bind (·.dst) with
 | some d => t d
 | none => none
def wantB (v : Value) (b : Bool) : Bool := match v with
 | .bool q => q == b
 | _ => false
def Step (P : Program) (nt : Nat) (ops : Array Oper) (o : Oper) (t : Fm) (m : AM) (K : Fm → AM → Prop) : Prop :=
 (∀ d, o.dst = some d → d < nt) ∧
 match o.guard with
 | none => ∃ ev, Kn t o ev ∧ AOp P o ev m (fun v m' => K (putO t o.dst v) m')
 | some (j, b) => ∃ g, gval ops t j = some g ∧ if wantB g b then ∃ ev, Kn t o ev ∧ AOp P o ev m (fun v m' => K (putO t o.dst v) m') else K (putO t o.dst undef) m
theorem wanted_of {a : Act} (h : FR R n t a.tmps) {o : Oper} {j : Nat} {b : Bool} {g : Value} (hg : o.guard = some (j, b)) (hv : gval ops t j = some g) : Region.wanted o (yielded ops a.tmps) = wantB g b := by
 unfold gval at hv
 unfold Region.wanted yielded
 rw [hg]
 simp only
 cases hd : (ops[j]?).bind (·.dst) with
 | none => rw [hd] at hv; cases hv
 | some d =>
  rw [hd] at hv
  simp only at hv
  have hr := h.rel d g hv
  simp only [Option.bind_some]
  rcases Nat.lt_or_ge d a.tmps.size with hl | hl
  ·simp only [Array.getD_eq_getD_getElem?, Array.getElem?_eq_getElem hl, Option.getD_some] at hr
   rw [Array.getElem?_eq_getElem hl]
   generalize a.tmps[d] = y at hr
   cases hr <;> simp [wantB]
  ·simp only [Array.getD_eq_getD_getElem?, Array.getElem?_eq_none hl, Option.getD_none] at hr
   rw [Array.getElem?_eq_none hl]
   generalize hy : undef = y at hr
   cases hr <;> first | rfl | cases hy
theorem Step.mono {o : Oper} {K K' : Fm → AM → Prop} (h : Step P nt ops o t m K) (hk : ∀ v m', K (putO t o.dst v) m' → K' (putO t o.dst v) m') : Step P nt ops o t m K' := by
 refine ⟨h.1, ?_⟩
 have h2 := h.2
 split at h2
 ·obtain ⟨ev, k1, k2⟩ := h2
  exact ⟨ev, k1, k2.mono fun v m' => hk v m'⟩
 ·obtain ⟨g, k1, k2⟩ := h2
  refine ⟨g, k1, ?_⟩
  split
  ·rename_i hw
   rw [if_pos hw] at k2
   obtain ⟨ev, q1, q2⟩ := k2
   exact ⟨ev, q1, q2.mono fun v m' => hk v m'⟩
  ·rename_i hw
   rw [if_neg hw] at k2
   exact hk _ _ k2
theorem Step.ok {o : Oper} {K : Fm → AM → Prop} (h : Step P nt ops o t m K) {i : Nat} (hi : ops[i]? = some o) {base : Nat} {R : Pl} {w : World} {a : Act} (hb : base ≤ w.heap.size) (hm : MRep base R m w) (ht : FR R nt t a.tmps)
  {next : Act → World → Prop} {Q : Exit → Act → World → Prop} (hn : ∀ R' t' m' a' w', a'.defers = a.defers → FR R' nt t' a'.tmps → Post base m m' R R' w w' → K t' m' → next a' w') : wpOp P ops Q i next a w := by
 unfold wpOp
 simp only [hi]
 have run : ∀ ev, Kn t o ev → AOp P o ev m (fun v m' => K (putO t o.dst v) m') → o.wp P a w next Q := fun ev k1 k2 =>
  k2.loud base R w a Q next hb hm (fun x hx => evo_rel ht (k1 x hx)) fun R' v v' m' w' q1 q2 q3 => hn R' _ m' _ w' (put_defers _ _ _) ((ht.mono q2.le).putO h.1 q1) q2 q3
 have h2 := h.2
 split at h2
 ·rename_i hg
  obtain ⟨ev, k1, k2⟩ := h2
  rw [if_pos (by simp [Region.wanted, hg])]
  exact .inl (run ev k1 k2)
 ·rename_i j b hg
  obtain ⟨g, k1, k2⟩ := h2
  rw [wanted_of ht hg k1]
  split
  ·rename_i hw
   rw [if_pos hw] at k2
   obtain ⟨ev, q1, q2⟩ := k2
   exact .inl (run ev q1 q2)
  ·rename_i hw
   rw [if_neg hw] at k2
   exact hn R _ m _ w (put_defers _ _ _) (ht.putO h.1 (.undef R)) (.refl hm) k2
def AWi (P : Program) (nt : Nat) (ops : Array Oper) : List Nat → Fm → AM → (Fm → AM → Prop) → Prop
 | [], t, m, Q => Q t m
 | i :: rest, t, m, Q => ∃ o, ops[i]? = some o ∧ Step P nt ops o t m (fun t m => AWi P nt ops rest t m Q)
theorem AWi.nil {Q : Fm → AM → Prop} (h : Q t m) : AWi P nt ops [] t m Q := h
theorem AWi.cons {i : Nat} {rest : List Nat} {o : Oper} {Q : Fm → AM → Prop} (ho : ops[i]? = some o) (h : Step P nt ops o t m (fun t m => AWi P nt ops rest t m Q)) : AWi P nt ops (i :: rest) t m Q := ⟨o, ho, h⟩
theorem AWi.ok {base : Nat} {Q : Fm → AM → Prop} {QQ : Exit → Act → World → Prop} : ∀ (l : List Nat) (t : Fm) (m : AM) (R : Pl) (w : World) (a : Act), AWi P nt ops l t m Q → base ≤ w.heap.size → MRep base R m w → FR R nt t a.tmps →
  (∀ R' t' m' a' w', a'.defers = a.defers → FR R' nt t' a'.tmps → Post base m m' R R' w w' → Q t' m' → QQ .normal a' w') → wpOps P ops QQ l a w
 | [], t, m, R, w, a, h, hb, hm, ht, hQ => by
  simp only [wpOps]
  exact hQ R t m a w rfl ht (.refl hm) h
 | i :: rest, t, m, R, w, a, ⟨o, ho, h⟩, hb, hm, ht, hQ => by
  rw [wpOps_cons]
  refine h.ok ho hb hm ht ?_
  intro R' t' m' a' w' k1 k2 k3 k4
  refine AWi.ok rest t' m' R' w' a' k4 (Nat.le_trans hb k3.size) k3.rep k2 ?_
  intro R2 t2 m2 a2 w2 q1 q2 q3 q4
  exact hQ R2 t2 m2 a2 w2 (q1.trans k1) q2 (k3.trans q3) q4
def AWd (P : Program) (nt : Nat) (ops : Array Oper) (Q : Fm → AM → Prop) : Nat → Array Bool → Fm → AM → Prop
 | 0, listed, t, m => Region.ready .any ops listed = [] ∧ Q t m
 | f + 1, listed, t, m => (Region.ready .any ops listed = [] → Q t m) ∧ ∀ i ∈ Region.ready .any ops listed, ∀ o, ops[i]? = some o → Step P nt ops o t m (fun t m => AWd P nt ops Q f (listed.setIfInBounds i true) t m)
theorem AWd.ok {base : Nat} {Q : Fm → AM → Prop} {QQ : Exit → Act → World → Prop} : ∀ (f : Nat) (listed : Array Bool) (t : Fm) (m : AM) (R : Pl) (w : World) (a : Act), AWd P nt ops Q f listed t m → base ≤ w.heap.size → MRep base R m w → FR R nt t a.tmps →
  (∀ R' t' m' a' w', a'.defers = a.defers → FR R' nt t' a'.tmps → Post base m m' R R' w w' → Q t' m' → QQ .normal a' w') → wpAny P .any ops QQ f listed a w
 | 0, listed, t, m, R, w, a, h, hb, hm, ht, hQ => ⟨h.1, hQ R t m a w rfl ht (.refl hm) h.2⟩
 | f + 1, listed, t, m, R, w, a, h, hb, hm, ht, hQ => by
  refine ⟨fun h0 => hQ R t m a w rfl ht (.refl hm) (h.1 h0), fun i hi => ?_⟩
  obtain ⟨_, o, ho, _⟩ := mem_ready.1 hi
  refine (h.2 i hi o ho).ok ho hb hm ht ?_
  intro R' t' m' a' w' k1 k2 k3 k4
  refine AWd.ok f _ t' m' R' w' a' k4 (Nat.le_trans hb k3.size) k3.rep k2 ?_
  intro R2 t2 m2 a2 w2 q1 q2 q3 q4
  exact hQ R2 t2 m2 a2 w2 (q1.trans k1) q2 (k3.trans q3) q4
end
section
variable {P : Program} {base n nt : Nat} {R R' : Pl} {m : AM} {w : World} {t t1 : Fm} {u : Array Value} {ops : Array Oper} {Q : Fm → AM → Prop}
def Yl (P : Program) (ops : Array Oper) (o : Oper) (t : Fm) (m : AM) (v : Value) : Prop := match o.guard with
 | none => ∃ ev, Kn t o ev ∧ aquiet P o ev m = some v
 | some (j, b) => ∃ g, gval ops t j = some g ∧ if wantB g b then ∃ ev, Kn t o ev ∧ aquiet P o ev m = some v else v = undef
theorem Step.still {o : Oper} {K : Fm → AM → Prop} (h : Step P nt ops o t m K) (hs : stillB P o.op = true) : ∃ v, Yl P ops o t m v ∧ K (putO t o.dst v) m := by
 have h2 := h.2
 have un : ∀ ev, AOp P o ev m (fun v m' => K (putO t o.dst v) m') → ∃ v, aquiet P o ev m = some v ∧ K (putO t o.dst v) m := fun ev k => by
  rcases k with k | ⟨k, _⟩
  ·exact k
  ·rw [hs] at k; cases k
 unfold Yl
 cases hg : o.guard with
 | none =>
  simp only [hg] at h2 ⊢
  obtain ⟨ev, k1, k2⟩ := h2
  obtain ⟨v, q1, q2⟩ := un ev k2
  exact ⟨v, ⟨ev, k1, q1⟩, q2⟩
 | some jb =>
  obtain ⟨j, b⟩ := jb
  simp only [hg] at h2 ⊢
  obtain ⟨g, k1, k2⟩ := h2
  split at k2
  ·rename_i hw
   obtain ⟨ev, r1, r2⟩ := k2
   obtain ⟨v, q1, q2⟩ := un ev r2
   exact ⟨v, ⟨g, k1, by rw [if_pos hw]; exact ⟨ev, r1, q1⟩⟩, q2⟩
  ·rename_i hw
   exact ⟨undef, ⟨g, k1, by rw [if_neg hw]⟩, k2⟩
theorem Step.of_yl {o : Oper} {K : Fm → AM → Prop} {v : Value} (h : Yl P ops o t m v) (hd : ∀ d, o.dst = some d → d < nt) (hK : K (putO t o.dst v) m) : Step P nt ops o t m K := by
 refine ⟨hd, ?_⟩
 unfold Yl at h
 cases hg : o.guard with
 | none =>
  simp only [hg] at h ⊢
  obtain ⟨ev, k1, k2⟩ := h
  exact ⟨ev, k1, .inl ⟨v, k2, hK⟩⟩
 | some jb =>
  obtain ⟨j, b⟩ := jb
  simp only [hg] at h ⊢
  obtain ⟨g, k1, k2⟩ := h
  refine ⟨g, k1, ?_⟩
  split
  ·rename_i hw
   rw [if_pos hw] at k2
   obtain ⟨ev, q1, q2⟩ := k2
   exact ⟨ev, q1, .inl ⟨v, q2, hK⟩⟩
  ·rename_i hw
   rw [if_neg hw] at k2
   rw [← k2]; exact hK
theorem AOp.mono' {o : Oper} {ev : Operand → Value} {K K' : Value → AM → Prop} (h : AOp P o ev m K) (hk : ∀ v m', (stillB P o.op = true → m' = m) → K v m' → K' v m') : AOp P o ev m K' := by
 rcases h with ⟨v, h1, h2⟩ | ⟨h1, h2⟩
 ·exact .inl ⟨v, h1, hk _ _ (fun _ => rfl) h2⟩
 ·exact .inr ⟨h1, h2.mono fun v m' => hk v m' (fun e => by rw [h1] at e; cases e)⟩
theorem Step.mono' {o : Oper} {K K' : Fm → AM → Prop} (h : Step P nt ops o t m K) (hk : ∀ v m', (stillB P o.op = true → m' = m) → K (putO t o.dst v) m' → K' (putO t o.dst v) m') : Step P nt ops o t m K' := by
 refine ⟨h.1, ?_⟩
 have h2 := h.2
 split at h2
 ·obtain ⟨ev, k1, k2⟩ := h2
  exact ⟨ev, k1, k2.mono' fun v m' => hk v m'⟩
 ·obtain ⟨g, k1, k2⟩ := h2
  refine ⟨g, k1, ?_⟩
  split
  ·rename_i hw
   rw [if_pos hw] at k2
   obtain ⟨ev, q1, q2⟩ := k2
   exact ⟨ev, q1, q2.mono' fun v m' => hk v m'⟩
  ·rename_i hw
   rw [if_neg hw] at k2
   exact hk _ _ (fun _ => rfl) k2
theorem putO_other (t : Fm) {d : Option Tmp} (v : Value) {j : Nat} (h : d ≠ some j) : putO t d v j = t j := by
 cases d with
 | none => rfl
 | some d => exact put_ne _ _ (fun e => h (by rw [e]))
theorem putO_comm (t : Fm) {d e : Option Tmp} (v x : Value) (h : ∀ k, d = some k → e ≠ some k) : putO (putO t d v) e x = putO (putO t e x) d v := by
 cases d with
 | none => rfl
 | some d => cases e with
  | none => rfl
  | some e => exact put_comm _ _ _ (fun k => h d rfl (by rw [k]))
theorem evo_putO {o : Oper} {d : Option Tmp} (v : Value) (h : ∀ k, d = some k → k ∉ o.looksAt ops) {x : Operand} (hx : x ∈ o.op.operands) : evo (putO t d v) x = evo t x := by
 cases x with
 | tmp j =>
  refine putO_other t v (fun e => h j e ?_)
  unfold Oper.looksAt
  refine List.mem_append.2 (.inl (List.mem_filterMap.2 ⟨.tmp j, by simpa using hx, rfl⟩))
 | _ => rfl
theorem gval_putO {o : Oper} {d : Option Tmp} (v : Value) (h : ∀ k, d = some k → k ∉ o.looksAt ops) {j : Nat} {b : Bool} (hg : o.guard = some (j, b)) : gval ops (putO t d v) j = gval ops t j := by
 unfold gval
 cases hd : (ops[j]?).bind (·.dst) with
 | none => rfl
 | some e =>
  refine putO_other t v (fun q => h e q ?_)
  unfold Oper.looksAt
  refine List.mem_append.2 (.inr ?_)
  rw [hg]
  simp [hd]
theorem kn_putO {o : Oper} {d : Option Tmp} (v : Value) (h : ∀ k, d = some k → k ∉ o.looksAt ops) {ev : Operand → Value} : Kn (putO t d v) o ev ↔ Kn t o ev :=
 ⟨fun k x hx => (evo_putO v h hx).symm.trans (k x hx), fun k x hx => (evo_putO v h hx).trans (k x hx)⟩
theorem Step.comm {o : Oper} {d : Option Tmp} {v : Value} {K : Fm → AM → Prop} (h : Step P nt ops o (putO t d v) m K) (h1 : ∀ k, d = some k → k ∉ o.looksAt ops) (h2 : ∀ k, d = some k → o.dst ≠ some k) :
  Step P nt ops o t m (fun t' m' => K (putO t' d v) m') := by
 refine ⟨h.1, ?_⟩
 have k2 := h.2
 split at k2
 ·obtain ⟨ev, q1, q2⟩ := k2
  exact ⟨ev, (kn_putO v h1).1 q1, q2.mono fun x m' k => by show K _ _; rw [← putO_comm t v x h2]; exact k⟩
 ·rename_i j b hg
  obtain ⟨g, q1, q2⟩ := k2
  refine ⟨g, (gval_putO v h1 hg).symm.trans q1, ?_⟩
  split
  ·rename_i hw
   rw [if_pos hw] at q2
   obtain ⟨ev, r1, r2⟩ := q2
   exact ⟨ev, (kn_putO v h1).1 r1, r2.mono fun x m' k => by show K _ _; rw [← putO_comm t v x h2]; exact k⟩
  ·rename_i hw
   rw [if_neg hw] at q2
   show K _ _
   rw [← putO_comm t v undef h2]; exact q2
theorem aquiet_pure {o : Oper} (hp : pureB P o.op = true) (ev : Operand → Value) (m m' : AM) : aquiet P o ev m = aquiet P o ev m' := by
 unfold pureB at hp
 unfold aquiet
 split <;> first | rfl | (rename_i e; rw [e] at hp; simp at hp)
theorem Yl.later {o oj : Oper} {v x : Value} {m' : AM} (h : Yl P ops o t m v) (h1 : ∀ k, oj.dst = some k → k ∉ o.looksAt ops) (h2 : pureB P o.op = true ∨ m' = m) : Yl P ops o (putO t oj.dst x) m' v := by
 have hm : ∀ ev, aquiet P o ev m' = aquiet P o ev m := fun ev => by
  rcases h2 with h2 | h2
  ·exact aquiet_pure h2 ev _ _
  ·rw [h2]
 unfold Yl at h ⊢
 split at h
 ·obtain ⟨ev, k1, k2⟩ := h
  exact ⟨ev, (kn_putO x h1).2 k1, (hm ev).trans k2⟩
 ·rename_i j b hg
  obtain ⟨g, k1, k2⟩ := h
  refine ⟨g, (gval_putO x h1 hg).trans k1, ?_⟩
  split
  ·rename_i hw
   rw [if_pos hw] at k2
   obtain ⟨ev, q1, q2⟩ := k2
   exact ⟨ev, (kn_putO x h1).2 q1, (hm ev).trans q2⟩
  ·rename_i hw
   rw [if_neg hw] at k2
   exact k2
theorem AWd.take {i : Nat} {oi : Oper} {v : Value} (hi : ops[i]? = some oi) (hd : ∀ d, oi.dst = some d → d < nt) (C l0 : Array Bool)
  (hC2 : ∀ (j : Nat) (oj : Oper), ops[j]? = some oj → C.getD j false = false → j ≠ i → ∃ e ∈ oj.after, Region.binds .any e = true ∧ C.getD e.on false = false)
  (hC3 : ∀ (j : Nat) (oj : Oper), ops[j]? = some oj → C.getD j false = true → l0.getD j false = false → j ≠ i → oi.apart ops oj = true ∧ (pureB P oi.op = true ∨ stillB P oj.op = true)) :
  ∀ (f : Nat) (listed : Array Bool) (t : Fm) (m : AM), (∀ j, listed.getD j false = true → C.getD j false = true) → (∀ j, l0.getD j false = true → listed.getD j false = true) → i ∈ Region.ready .any ops listed → Yl P ops oi t m v →
   AWd P nt ops Q f (listed.setIfInBounds i true) (putO t oi.dst v) m → AWd P nt ops Q (f + 1) listed t m := by
 intro f
 induction f with
 | zero =>
  intro listed t m hL hL0 hr hy H
  refine ⟨fun h => (by rw [h] at hr; cases hr), fun j hj oj hoj => ?_⟩
  by_cases hji : j = i
  ·subst hji
   rw [hi] at hoj; injection hoj with hoj; subst hoj
   exact .of_yl hy hd H
  ·have := ready_mono hj hji
   rw [H.1] at this
   cases this
 | succ f ih =>
  intro listed t m hL hL0 hr hy H
  refine ⟨fun h => (by rw [h] at hr; cases hr), fun j hj oj hoj => ?_⟩
  by_cases hji : j = i
  ·subst hji
   rw [hi] at hoj; injection hoj with hoj; subst hoj
   exact .of_yl hy hd H
  ·have h1 := H.2 j (ready_mono hj hji) oj hoj
   obtain ⟨hjun, oj', hoj', hall⟩ := mem_ready.1 hj
   rw [hoj] at hoj'; injection hoj' with hoj'; subst hoj'
   have hjun' : listed.getD j false = false := by
    rcases Nat.lt_or_ge j listed.size with h' | h'
    ·simpa [h'] using hjun
    ·simp [Array.getElem?_eq_none h']
   have hCj : C.getD j false = true := by
    cases hc : C.getD j false with
    | true => rfl
    | false =>
     obtain ⟨e, he, hb, hce⟩ := hC2 j oj hoj hc hji
     rw [hL _ (hall e he hb)] at hce; cases hce
   have hl0 : l0.getD j false = false := by
    cases hc : l0.getD j false with
    | false => rfl
    | true => rw [hL0 j hc] at hjun'; cases hjun'
   obtain ⟨hap, hor⟩ := hC3 j oj hoj hCj hl0 hji
   obtain ⟨a1, a2, a3⟩ := Oper.apart_spec hap
   have h2 := h1.comm a1 a2
   refine h2.mono' fun x m' hst hk => ?_
   refine ih (listed.setIfInBounds j true) _ m' (fun k hk => ?_) (fun k hk => getD_set_true (hL0 k hk)) (ready_mono hr (Ne.symm hji)) (hy.later a3 (hor.imp id hst)) ?_
   ·by_cases e : j = k
    ·rw [← e]; exact hCj
    ·rw [getD_set_ne false e] at hk
     exact hL k hk
   ·rw [Array.setIfInBounds_comm _ _ hji]
    exact hk
def closeC (ops : Array Oper) (i : Nat) : Nat → Array Bool → Array Bool
 | 0, C => C
 | n + 1, C => match (Region.ready .any ops C).filter (fun j => !Nat.beq j i) with
  | [] => C
  | rs => closeC ops i n (rs.foldl (fun C j => C.setIfInBounds j true) C)
def takeC (P : Program) (ops : Array Oper) (listed C : Array Bool) (i : Nat) (oi : Oper) : Bool :=
 (List.range ops.size).all fun j => match ops[j]? with
  | none => true
  | some oj => (!listed.getD j false || C.getD j false) && (Nat.beq j i || match C.getD j false with
   | true => listed.getD j false || (oi.apart ops oj && (pureB P oi.op || stillB P oj.op))
   | false => oj.after.any fun e => Region.binds .any e && !C.getD e.on false)
def takeB (P : Program) (ops : Array Oper) (listed : Array Bool) (i : Nat) : Bool :=
 match ops[i]? with
 | none => false
 | some oi => stillB P oi.op && takeC P ops listed (closeC ops i ops.size listed) i oi
def plan (P : Program) (ops : Array Oper) : Nat → Array Bool → Option (List Nat)
 | 0, listed => match Region.ready .any ops listed with
  | [] => some []
  | _ => none
 | f + 1, listed => match Region.ready .any ops listed with
  | [] => some []
  | rs => match rs.find? (takeB P ops listed) with
   | some i => (plan P ops f (listed.setIfInBounds i true)).map (i :: ·)
   | none => match rs with
    | [i] => (plan P ops f (listed.setIfInBounds i true)).map (i :: ·)
    | _ => none
theorem plan_ok : ∀ (f : Nat) (listed : Array Bool) (l : List Nat) (t : Fm) (m : AM), listed.size = ops.size → plan P ops f listed = some l → AWi P nt ops l t m Q → AWd P nt ops Q f listed t m
 | 0, listed, l, t, m, hsz, h, H => by
  unfold plan at h
  split at h
  ·rename_i hr
   injection h with h; subst h
   exact ⟨hr, H⟩
  ·cases h
 | f + 1, listed, l, t, m, hsz, h, H => by
  unfold plan at h
  split at h
  ·rename_i hr
   injection h with h; subst h
   exact ⟨fun _ => H, fun i hi => by rw [hr] at hi; cases hi⟩
  ·split at h
   ·rename_i rs hne i hfind
    cases hp : plan P ops f (listed.setIfInBounds i true) with
    | none => rw [hp] at h; cases h
    | some l' =>
     rw [hp] at h
     simp only [Option.map_some, Option.some.injEq] at h
     subst h
     obtain ⟨o, ho, hs⟩ := H
     have hr := List.mem_of_find?_eq_some hfind
     have ht := List.find?_some hfind
     unfold takeB at ht
     rw [ho] at ht
     simp only [Bool.and_eq_true] at ht
     obtain ⟨t1, t2⟩ := ht
     obtain ⟨v, hy, hk⟩ := hs.still t1
     have hih := plan_ok f _ _ _ _ (by simpa using hsz) hp hk
     generalize closeC ops i ops.size listed = C at t2
     unfold takeC at t2
     rw [List.all_eq_true] at t2
     have each : ∀ (j : Nat) (oj : Oper), ops[j]? = some oj → _ := fun j oj hj => by
      have := t2 j (List.mem_range.2 (Array.getElem?_eq_some_iff.1 hj).1)
      rw [hj] at this
      exact this
     simp only [Bool.and_eq_true, Bool.or_eq_true] at each
     refine AWd.take ho hs.1 C listed (fun j oj hj hc hne => ?_) (fun j oj hj hc hl hne => ?_) f listed t m (fun j hj => ?_) (fun _ h => h) hr hy hih
     ·have h1 := (each j oj hj).2
      rcases h1 with h1 | h1
      ·exact absurd (Nat.eq_of_beq_eq_true h1) hne
      ·rw [hc] at h1
       simp only at h1
       obtain ⟨e, he, hb⟩ := Array.any_eq_true'.1 h1
       simp only [Bool.and_eq_true, Bool.not_eq_true'] at hb
       exact ⟨e, he, hb.1, hb.2⟩
     ·have h1 := (each j oj hj).2
      rcases h1 with h1 | h1
      ·exact absurd (Nat.eq_of_beq_eq_true h1) hne
      ·rw [hc] at h1
       simp only [hl, Bool.false_or, Bool.and_eq_true, Bool.or_eq_true] at h1
       exact h1
     ·have hlt : j < ops.size := by
       rw [← hsz]
       rcases Nat.lt_or_ge j listed.size with h' | h'
       ·exact h'
       ·simp [Array.getElem?_eq_none h'] at hj
      have h1 := (each j ops[j] (Array.getElem?_eq_getElem hlt)).1
      rw [hj] at h1
      simpa using h1
   ·split at h
    ·rename_i _ _ i _
     have hrs : Region.ready .any ops listed = [i] := by assumption
     cases hp : plan P ops f (listed.setIfInBounds i true) with
     | none => rw [hp] at h; cases h
     | some l' =>
      rw [hp] at h
      simp only [Option.map_some, Option.some.injEq] at h
      subst h
      obtain ⟨o, ho, hs⟩ := H
      refine ⟨fun h0 => ?_, fun j hj oj hoj => ?_⟩
      ·rw [hrs] at h0; cases h0
      ·rw [hrs] at hj
       obtain rfl : j = i := by simpa using hj
       rw [ho] at hoj; injection hoj with hoj; subst hoj
       exact hs.mono fun v m' hk => plan_ok f _ _ _ _ (by simpa using hsz) hp hk
    ·cases h
end
inductive Ren (ρ : Nat → Nat) (n : Nat) : Value → Value → Prop
 | bool (b : Bool) : Ren ρ n (.bool b) (.bool b)
 | int (k : IntKind) (x : Int) : Ren ρ n (.int k x) (.int k x)
 | float (k : FloatKind) (x : Nat) : Ren ρ n (.float k x) (.float k x)
 | complex (k : FloatKind) (x y : Nat) : Ren ρ n (.complex k x y) (.complex k x y)
 | string (s : ByteArray) : Ren ρ n (.string s) (.string s)
 | ptrNil : Ren ρ n (.pointer none) (.pointer none)
 | ptr (i o : Nat) (h : i < n) : Ren ρ n (.pointer (some ⟨i, o, none⟩)) (.pointer (some ⟨ρ i, o, none⟩))
 | sliceNil : Ren ρ n (.slice none 0 0) (.slice none 0 0)
 | slice (i o l c : Nat) (h : i < n) : Ren ρ n (.slice (some ⟨i, o, none⟩) l c) (.slice (some ⟨ρ i, o, none⟩) l c)
 | sliceSpot (i o k : Nat) (h : i < n) : Ren ρ n (.slice (some ⟨i, o, some k⟩) 0 0) (.slice (some ⟨ρ i, o, some k⟩) 0 0)
 | mapNil : Ren ρ n (.map none) (.map none)
 | mapAt (i : Nat) (h : i < n) : Ren ρ n (.map (some i)) (.map (some (ρ i)))
 | nilFunc : Ren ρ n .nilFunc .nilFunc
 | nilIface : Ren ρ n .nilIface .nilIface
 | func (fn : Fn) (f c f' c' : Array Value) (h1 : f.size = f'.size) (h2 : ∀ i, i < f.size → Ren ρ n (f.getD i undef) (f'.getD i undef))
   (h3 : c.size = c'.size) (h4 : ∀ i, i < c.size → Ren ρ n (c.getD i undef) (c'.getD i undef)) : Ren ρ n (.func fn f c) (.func fn f' c')
 | agg (c c' : Array Value) (h1 : c.size = c'.size) (h2 : ∀ i, i < c.size → Ren ρ n (c.getD i undef) (c'.getD i undef)) : Ren ρ n (.agg c) (.agg c')
 | tuple (c c' : Array Value) (h1 : c.size = c'.size) (h2 : ∀ i, i < c.size → Ren ρ n (c.getD i undef) (c'.getD i undef)) : Ren ρ n (.tuple c) (.tuple c')
def renPl (ρ : Nat → Nat) (n : Nat) (R : Pl) : Pl := fun i => if i < n then R (ρ i) else none
theorem Ren.rel {ρ : Nat → Nat} {n : Nat} {R : Pl} {v v' : Value} (h : Ren ρ n v v') : ∀ x, Rel R v' x → Rel (renPl ρ n R) v x := by
 induction h with
 | bool b => intro x hx; cases hx; exact .bool b
 | int k q => intro x hx; cases hx; exact .int k q
 | float k q => intro x hx; cases hx; exact .float k q
 | complex k q r => intro x hx; cases hx; exact .complex k q r
 | string s => intro x hx; cases hx; exact .string s
 | ptrNil => intro x hx; cases hx; exact .ptrNil
 | ptr i o hi => intro x hx; cases hx with | ptr _ _ p hp => exact .ptr i o p (by simp [renPl, hi, hp])
 | sliceNil => intro x hx; cases hx; exact .sliceNil
 | slice i o l c hi => intro x hx; cases hx with | slice _ _ _ _ p hp hn => exact .slice i o l c p (by simp [renPl, hi, hp]) hn
 | sliceSpot i o k hi => intro x hx; cases hx with | sliceSpot _ _ _ p hp => exact .sliceSpot i o k p (by simp [renPl, hi, hp])
 | mapNil => intro x hx; cases hx; exact .mapNil
 | mapAt i hi => intro x hx; cases hx with | mapAt _ p hp => exact .mapAt i p (by simp [renPl, hi, hp])
 | nilFunc => intro x hx; cases hx; exact .nilFunc
 | nilIface => intro x hx; cases hx; exact .nilIface
 | func fn f c f' c' h1 _ h3 _ i1 i2 =>
  intro x hx
  cases hx with
  | func _ _ _ f2 c2 k1 k2 k3 k4 => exact .func fn f c f2 c2 (h1.trans k1) (fun i hi => i1 i hi _ (k2 i (by omega))) (h3.trans k3) (fun i hi => i2 i hi _ (k4 i (by omega)))
 | agg c c' h1 _ i1 =>
  intro x hx
  cases hx with
  | agg _ c2 k1 k2 => exact .agg c c2 (h1.trans k1) (fun i hi => i1 i hi _ (k2 i (by omega)))
 | tuple c c' h1 _ i1 =>
  intro x hx
  cases hx with
  | tuple _ c2 k1 k2 => exact .tuple c c2 (h1.trans k1) (fun i hi => i1 i hi _ (k2 i (by omega)))
theorem Ren.of_rel {ρ : Nat → Nat} {n N : Nat} {R : Pl} {v x : Value} (h : Rel R v x) (hR : ∀ i, N ≤ i → R i = none) (hN : N ≤ n) (hρ : ∀ i, i < N → ρ i = i) : Ren ρ n v v := by
 have lt : ∀ i p, R i = some p → i < N := fun i p hp => by
  rcases Nat.lt_or_ge i N with h | h
  ·exact h
  ·rw [hR i h] at hp; cases hp
 induction h with
 | bool b => exact .bool b
 | int k q => exact .int k q
 | float k q => exact .float k q
 | complex k q r => exact .complex k q r
 | string s => exact .string s
 | ptrNil => exact .ptrNil
 | ptr i o p hp =>
  have hi := lt i p hp
  have := Ren.ptr (ρ := ρ) (n := n) i o (by omega)
  rwa [hρ i hi] at this
 | sliceNil => exact .sliceNil
 | slice i o l c p hp _ =>
  have hi := lt i p hp
  have := Ren.slice (ρ := ρ) (n := n) i o l c (by omega)
  rwa [hρ i hi] at this
 | sliceSpot i o k p hp =>
  have hi := lt i p hp
  have := Ren.sliceSpot (ρ := ρ) (n := n) i o k (by omega)
  rwa [hρ i hi] at this
 | mapNil => exact .mapNil
 | mapAt i p hp =>
  have hi := lt i p hp
  have := Ren.mapAt (ρ := ρ) (n := n) i (by omega)
  rwa [hρ i hi] at this
 | nilFunc => exact .nilFunc
 | nilIface => exact .nilIface
 | func fn f c f' c' h1 _ h3 _ i1 i2 => exact .func fn f c f c rfl i1 rfl i2
 | agg c c' h1 _ i1 => exact .agg c c rfl i1
 | tuple c c' h1 _ i1 => exact .tuple c c rfl i1
def Gc (m0 : AM) (t : Fm) (m : AM) (t1 : Fm) (m1 : AM) : Prop :=
 ∃ ρ : Nat → Nat, m0.length ≤ m1.length ∧ (∀ j, j < m0.length → ρ j = j) ∧
  (∀ (i j : Nat) (b c : Blk), m1[i]? = some (some b) → m1[j]? = some (some c) → ρ i = ρ j → i = j) ∧
  (∀ (j : Nat) (b : Blk), m1[j]? = some (some b) → (j < m0.length ∧ m[j]? = some (some b) ∧ m0[j]? = some (some b)) ∨
   isMapK b.kind = false ∧ ∃ b', m[ρ j]? = some (some b') ∧ b.kind = b'.kind ∧ b.size = b'.size ∧ b.cells.length = b'.cells.length ∧ ∀ (k : Nat) (v : Value), b.cells[k]? = some v → ∃ v', b'.cells[k]? = some v' ∧ Ren ρ m1.length v v') ∧
  (∀ i v, t1 i = some v → ∃ v', t i = some v' ∧ Ren ρ m1.length v v')
section
variable {P : Program} {base n nt : Nat} {R R0 : Pl} {m m0 m1 : AM} {w w0 : World} {t t1 : Fm} {u : Array Value} {Q Q' : AEx → Fm → AM → Prop}
theorem Gc.ok (h : Gc m0 t m t1 m1) (h0 : MRep base R0 m0 w0) (hp : Post base m0 m R0 R w0 w) (ht : FR R nt t u) : ∃ R1, Post base m0 m1 R0 R1 w0 w ∧ FR R1 nt t1 u := by
 obtain ⟨ρ, hl, hid, hinj, hm, hf⟩ := h
 have lt0 : ∀ i p, R0 i = some p → i < m0.length := fun i p hp => by
  rcases Nat.lt_or_ge i m0.length with h | h
  ·exact h
  ·rw [h0.none_ i h] at hp; cases hp
 have hm' : ∀ (j : Nat) (b : Blk), m1[j]? = some (some b) → ∃ b', m[ρ j]? = some (some b') ∧ b.kind = b'.kind ∧ b.size = b'.size ∧ b.cells.length = b'.cells.length ∧ (∀ (k : Nat) (v : Value), b.cells[k]? = some v → ∃ v', b'.cells[k]? = some v' ∧ Ren ρ m1.length v v') ∧
   (isMapK b.kind = true → b.ents.length = b'.ents.length ∧ ∀ (k : Nat) (a v : Value), b.ents[k]? = some (a, v) → ∃ v', b'.ents[k]? = some (a, v') ∧ Ren ρ m1.length v v') := by
  intro j b hj
  rcases hm j b hj with ⟨h1, h2, h3⟩ | h
  ·refine ⟨b, by rw [hid j h1]; exact h2, rfl, rfl, rfl, fun k v hk => ⟨v, hk, ?_⟩, fun hmk => ⟨rfl, fun k a v hk => ⟨v, hk, ?_⟩⟩⟩
   ·obtain ⟨p, k1, k2⟩ := h0.rep j b h3
    obtain ⟨x, _, hx⟩ := k2.cell hk
    exact Ren.of_rel hx h0.none_ hl hid
   ·obtain ⟨p, k1, k2⟩ := h0.rep j b h3
    obtain ⟨es, _, hre⟩ := k2.ents hmk
    obtain ⟨e, _, _, _, hx⟩ := hre.2 k a v hk
    exact Ren.of_rel hx h0.none_ hl hid
  ·obtain ⟨hmk, b', h1, h2, h3, h4, h5⟩ := h
   exact ⟨b', h1, h2, h3, h4, h5, fun e => by rw [hmk] at e; cases e⟩
 have hrep := hp.rep
 refine ⟨renPl ρ m1.length R, ⟨fun i p hi => ?_, ⟨fun i hi => ?_, fun j b hj => ?_, fun i j b c p q hi hj hb hc hne hpi hqj => ?_⟩, hp.os, hp.tape, hp.output, hp.size, hp.keep, fun k ho => ?_⟩, ⟨ht.size, fun i v hi => ?_⟩⟩
 ·have hi' := lt0 i p hi
  simp only [renPl, show i < m1.length by omega, if_true, hid i hi']
  exact hp.le i p hi
 ·simp only [renPl, show ¬ i < m1.length by omega, if_false]
 ·obtain ⟨b', h1, h2, h3, h3', h4, h5⟩ := hm' j b hj
  obtain ⟨p, k1, k2⟩ := hrep.rep (ρ j) b' h1
  have hlt : j < m1.length := (List.getElem?_eq_some_iff.1 hj).1
  refine ⟨p, by simp only [renPl, hlt, if_true]; exact k1, ?_⟩
  unfold BRep at k2 ⊢
  obtain ⟨q0, k2⟩ := k2
  refine ⟨q0, ?_⟩
  rw [← h2] at k2
  cases hk : b.kind with
  | ro =>
   rw [hk] at k2
   refine ⟨fun e => k2.1 (by rw [← h3]; exact e), fun k v hv => ?_⟩
   obtain ⟨v', r1, r2⟩ := h4 k v hv
   obtain ⟨x, r3, r4⟩ := k2.2 k v' r1
   exact ⟨x, r3, r2.rel x r4⟩
  | edge =>
   rw [hk] at k2
   refine ⟨?_, k2.2⟩
   have := h3'
   rw [k2.1] at this
   exact List.eq_nil_of_length_eq_zero this
  | map =>
   rw [hk] at k2
   obtain ⟨e1, e2, e3, es, e4, e5⟩ := k2
   obtain ⟨l1, l2⟩ := h5 (by rw [hk]; rfl)
   refine ⟨List.eq_nil_of_length_eq_zero (by rw [h3', e1]; rfl), e2, e3, es, e4, l1.trans e5.1, fun k a v hv => ?_⟩
   obtain ⟨v', r1, r2⟩ := l2 k a v hv
   obtain ⟨x, r3, r4, r5, r6⟩ := e5.2 k a v' r1
   exact ⟨x, r3, r4, r5, r2.rel _ r6⟩
  | rom =>
   rw [hk] at k2
   obtain ⟨e1, e2, es, e4, e5⟩ := k2
   obtain ⟨l1, l2⟩ := h5 (by rw [hk]; rfl)
   refine ⟨List.eq_nil_of_length_eq_zero (by rw [h3', e1]; rfl), e2, es, e4, l1.trans e5.1, fun k a v hv => ?_⟩
   obtain ⟨v', r1, r2⟩ := l2 k a v hv
   obtain ⟨x, r3, r4, r5, r6⟩ := e5.2 k a v' r1
   exact ⟨x, r3, r4, r5, r2.rel _ r6⟩
  | own =>
   rw [hk] at k2
   obtain ⟨cur, ty, r1, r2, r3, r4, r5⟩ := k2
   refine ⟨cur, ty, r1, r2, by rw [h3', h3]; exact r3, r4, fun k v hv => ?_⟩
   obtain ⟨v', s1, s2⟩ := h4 k v hv
   obtain ⟨x, s3, s4, s5⟩ := r5 k v' s1
   exact ⟨x, s3, s2.rel x s4, s5⟩
  | str =>
   rw [hk] at k2
   obtain ⟨cur, ty, r1, r2, r3, r5⟩ := k2
   refine ⟨cur, ty, r1, r2, by rw [h3', h3]; exact r3, fun k v hv => ?_⟩
   obtain ⟨v', s1, s2⟩ := h4 k v hv
   obtain ⟨x, s3, s4, s5⟩ := r5 k v' s1
   exact ⟨x, s3, s2.rel x s4, s5⟩
  | grow =>
   rw [hk] at k2
   obtain ⟨cur, ty, r1, r2, r3, r4, r5⟩ := k2
   refine ⟨cur, ty, r1, r2, by rw [h3', h3]; exact r3, r4, fun k v hv => ?_⟩
   obtain ⟨v', s1, s2⟩ := h4 k v hv
   obtain ⟨x, s3, s4, s5⟩ := r5 k v' s1
   exact ⟨x, s3, s2.rel x s4, s5⟩
 ·obtain ⟨b', h1, h2, _⟩ := hm' i b hi
  obtain ⟨c', k1, k2, _⟩ := hm' j c hj
  have hi' : i < m1.length := (List.getElem?_eq_some_iff.1 hi).1
  have hj' : j < m1.length := (List.getElem?_eq_some_iff.1 hj).1
  simp only [renPl, hi', hj', if_true] at hpi hqj
  exact hrep.apart (ρ i) (ρ j) b' c' p q h1 k1 (by rw [← h2]; exact hb) (by rw [← k2]; exact hc) (fun e => hne (hinj i j b c hi hj e)) hpi hqj
 ·obtain ⟨i, b, p, h1, h2, h3, h4⟩ := ho
  obtain ⟨b', k1, k2, _⟩ := hm' i b h1
  have hi' : i < m1.length := (List.getElem?_eq_some_iff.1 h1).1
  simp only [renPl, hi', if_true] at h3
  exact hp.sub k ⟨ρ i, b', p, k1, by rw [← k2]; exact h2, h3, h4⟩
 ·obtain ⟨v', h1, h2⟩ := hf i v hi
  exact h2.rel _ (ht.rel i v' h1)
def AW (P : Program) (nt : Nat) (m0 : AM) (c : Code) (t : Fm) (m : AM) (Q : AEx → Fm → AM → Prop) : Prop :=
 ∀ (base : Nat) (R0 : Pl) (w0 : World) (R : Pl) (a : Act) (w : World), base ≤ w0.heap.size → MRep base R0 m0 w0 → Post base m0 m R0 R w0 w → FR R nt t a.tmps →
  c.wp P (fun ex a' w' => ∃ e t' m' R', ex = AEx.to e ∧ a'.defers = a.defers ∧ Post base m0 m' R0 R' w0 w' ∧ FR R' nt t' a'.tmps ∧ Q e t' m') a w
theorem AW.mono {c : Code} (h : AW P nt m0 c t m Q) (hq : ∀ e t m, Q e t m → Q' e t m) : AW P nt m0 c t m Q' :=
 fun base R0 w0 R a w hb h0 hp ht => wp_mono (h base R0 w0 R a w hb h0 hp ht) fun _ _ _ ⟨e, t', m', R', h1, h2, h3, h4, h5⟩ => ⟨e, t', m', R', h1, h2, h3, h4, hq _ _ _ h5⟩
theorem AW.gc {c : Code} (hg : Gc m0 t m t1 m1) (h : AW P nt m0 c t1 m1 Q) : AW P nt m0 c t m Q := by
 intro base R0 w0 R a w hb h0 hp ht
 obtain ⟨R1, k1, k2⟩ := hg.ok h0 hp ht
 exact h base R0 w0 R1 a w hb h0 k1 k2
theorem AW.skip (h : Q .normal t m) : AW P nt m0 .skip t m Q := fun _ _ _ R _ _ _ _ hp ht => wp_skip ⟨.normal, t, m, R, rfl, rfl, hp, ht, h⟩
theorem AW.ret (h : Q .ret t m) : AW P nt m0 .ret t m Q := fun _ _ _ R _ _ _ _ hp ht => wp_ret ⟨.ret, t, m, R, rfl, rfl, hp, ht, h⟩
theorem AW.exit {id : Nat} (h : Q (.exit id) t m) : AW P nt m0 (.exit id) t m Q := fun _ _ _ R _ _ _ _ hp ht => wp_exit ⟨.exit id, t, m, R, rfl, rfl, hp, ht, h⟩
def Then (K : Fm → AM → Prop) (Q : AEx → Fm → AM → Prop) : AEx → Fm → AM → Prop
 | .normal, t, m => K t m
 | .exit i, t, m => Q (.exit i) t m
 | .ret, t, m => Q .ret t m
theorem AW.seq {a b : Code} (h : AW P nt m0 a t m (Then (fun t m => AW P nt m0 b t m Q) Q)) : AW P nt m0 (.seq a b) t m Q := by
 intro base R0 w0 R ac w hb h0 hp ht
 refine wp_seq (wp_mono (h base R0 w0 R ac w hb h0 hp ht) ?_)
 rintro ex a' w' ⟨e, t', m', R', rfl, h2, h3, h4, h5⟩
 cases e with
 | normal =>
  refine wp_mono (h5 base R0 w0 R' a' w' hb h0 h3 h4) ?_
  rintro ex a2 w2 ⟨e, t2, m2, R2, k1, k2, k3, k4, k5⟩
  exact ⟨e, t2, m2, R2, k1, k2.trans h2, k3, k4, k5⟩
 | exit i => exact ⟨.exit i, t', m', R', rfl, h2, h3, h4, h5⟩
 | ret => exact ⟨.ret, t', m', R', rfl, h2, h3, h4, h5⟩
theorem AW.cut {a b : Code} (Mid : Fm → AM → Prop) (h : AW P nt m0 a t m (Then Mid Q)) (h2 : ∀ t m, Mid t m → AW P nt m0 b t m Q) : AW P nt m0 (.seq a b) t m Q :=
 .seq (h.mono fun e t m => by cases e <;> first | exact h2 t m | exact id)
theorem AW.cond {c : Operand} {a b : Code} {q : Bool} (hc : evo t c = some (.bool q)) (h1 : q = true → AW P nt m0 a t m Q) (h2 : q = false → AW P nt m0 b t m Q) : AW P nt m0 (.cond c a b) t m Q := by
 intro base R0 w0 R ac w hb h0 hp ht
 have hr := evo_rel ht hc
 have he : ac.eval c = .bool q := by generalize ac.eval c = y at hr; cases hr; rfl
 exact wp_cond_split he (fun e => h1 e base R0 w0 R ac w hb h0 hp ht) (fun e => h2 e base R0 w0 R ac w hb h0 hp ht)
def InBlk (id : Nat) (Q : AEx → Fm → AM → Prop) : AEx → Fm → AM → Prop
 | .exit i, t, m => if i = id then Q .normal t m else Q (.exit i) t m
 | .normal, t, m => Q .normal t m
 | .ret, t, m => Q .ret t m
theorem AW.block {id : Nat} {c : Code} (h : AW P nt m0 c t m (InBlk id Q)) : AW P nt m0 (.block id c) t m Q := by
 intro base R0 w0 R ac w hb h0 hp ht
 refine wp_block (wp_mono (h base R0 w0 R ac w hb h0 hp ht) ?_)
 rintro ex a' w' ⟨e, t', m', R', rfl, h2, h3, h4, h5⟩
 cases e with
 | normal => exact ⟨.normal, t', m', R', rfl, h2, h3, h4, h5⟩
 | ret => exact ⟨.ret, t', m', R', rfl, h2, h3, h4, h5⟩
 | exit i =>
  simp only [AEx.to, Exit.inBlock]
  simp only [InBlk] at h5
  split
  ·rename_i hi
   rw [if_pos hi] at h5
   exact ⟨.normal, t', m', R', rfl, h2, h3, h4, h5⟩
  ·rename_i hi
   rw [if_neg hi] at h5
   exact ⟨.exit i, t', m', R', rfl, h2, h3, h4, h5⟩
theorem least (p : Nat → Prop) : (∃ n, p n) → ∃ n, p n ∧ ∀ k, k < n → ¬ p k := by
 intro ⟨n, hn⟩
 induction n using Nat.strongRecOn with
 | _ n ih =>
  by_cases h : ∃ k, k < n ∧ p k
  ·obtain ⟨k, h1, h2⟩ := h
   exact ih k h1 h2
  ·exact ⟨n, hn, fun k hk hp => h ⟨k, hk, hp⟩⟩
theorem AW.loop {c : Code} (I : Nat → Fm → AM → Prop) (h0 : ∃ k t1 m1, Gc m0 t m t1 m1 ∧ I k t1 m1)
  (round : ∀ k t m, I k t m → AW P nt m0 c t m (Then (fun t' m' => ∃ k' t1 m1, k' < k ∧ Gc m0 t' m' t1 m1 ∧ I k' t1 m1) Q)) : AW P nt m0 (.loop c) t m Q := by
 intro base R0 w0 R ac w hb hm0 hp ht
 let J : Nat → Act → World → Prop := fun k a w => ∃ t m R, I k t m ∧ Post base m0 m R0 R w0 w ∧ FR R nt t a.tmps ∧ a.defers = ac.defers
 have hJ0 : ∃ k, J k ac w := by
  obtain ⟨k, t1, m1, hg, hI⟩ := h0
  obtain ⟨R1, k1, k2⟩ := hg.ok hm0 hp ht
  exact ⟨k, t1, m1, R1, hI, k1, k2, rfl⟩
 open Classical in
 let μ : Act → World → Nat := fun a w => if h : ∃ k, J k a w then Classical.choose (least _ h) else 0
 have hμ : ∀ a w (h : ∃ k, J k a w), J (μ a w) a w ∧ ∀ k, J k a w → μ a w ≤ k := fun a w h => by
  have hs := Classical.choose_spec (least _ h)
  have e : μ a w = Classical.choose (least _ h) := dif_pos h
  rw [e]
  exact ⟨hs.1, fun k hk => Nat.le_of_not_lt fun hlt => hs.2 k hlt hk⟩
 refine wp_loop (fun a w => ∃ k, J k a w) μ hJ0 fun a w hJ => ?_
 obtain ⟨⟨t2, m2, R2, q1, q2, q3, q4⟩, _⟩ := hμ a w hJ
 refine wp_mono (round _ _ _ q1 base R0 w0 R2 a w hb hm0 q2 q3) ?_
 rintro ex a' w' ⟨e, t', m', R', rfl, h2, h3, h4, h5⟩
 cases e with
 | normal =>
  obtain ⟨k', t1, m1, r1, r2, r3⟩ := h5
  obtain ⟨R1, s1, s2⟩ := r2.ok hm0 h3 h4
  have hJ' : J k' a' w' := ⟨t1, m1, R1, r3, s1, s2, h2.trans q4⟩
  exact ⟨⟨k', hJ'⟩, Nat.lt_of_le_of_lt ((hμ a' w' ⟨k', hJ'⟩).2 k' hJ') r1⟩
 | exit i => exact ⟨.exit i, t', m', R', rfl, h2.trans q4, h3, h4, h5⟩
 | ret => exact ⟨.ret, t', m', R', rfl, h2.trans q4, h3, h4, h5⟩
theorem AW.reg {id : Nat} {ops : Array Oper} {l : List Nat} (hl : List.range ops.size = l) (h : AWi P nt ops l t m (fun t m => Q .normal t m)) : AW P nt m0 (.region id ops false) t m Q := by
 intro base R0 w0 R ac w hb h0 hp ht
 refine wp_region ?_
 rw [hl]
 refine AWi.ok l t m R w ac h (Nat.le_trans hb hp.size) hp.rep ht ?_
 intro R' t' m' a' w' k1 k2 k3 k4
 exact ⟨.normal, t', m', R', rfl, k1, hp.trans k3, k2, k4⟩
theorem AW.all (hP : Fit P) {id : Nat} {ops : Array Oper} (h : AWd P nt ops (fun t m => Q .normal t m) ops.size (Array.replicate ops.size false) t m) : AW P nt m0 (.region id ops true) t m Q := by
 intro base R0 w0 R ac w hb h0 hp ht
 refine wp_region_any hP.mixed ?_
 have hd := Post.drew hp.rep
 refine AWd.ok ops.size _ t m R _ ac h (by have := hp.size; simpa using Nat.le_trans hb this) hd.rep ht ?_
 intro R' t' m' a' w' k1 k2 k3 k4
 exact ⟨.normal, t', m', R', rfl, k1, (hp.trans hd).trans k3, k2, k4⟩
theorem AW.draw (hP : Fit P) {id : Nat} {ops : Array Oper} {l : List Nat} (hl : plan P ops ops.size (Array.replicate ops.size false) = some l) (h : AWi P nt ops l t m (fun t m => Q .normal t m)) : AW P nt m0 (.region id ops true) t m Q :=
 .all hP (plan_ok _ _ _ _ _ (by simp) hl h)
def ACall (P : Program) (f : FuncId) (args : Array Value) (m : AM) (Q : Value → AM → Prop) : Prop :=
 ∀ (base : Nat) (R : Pl) (w : World) (args' : Array Value), base ≤ w.heap.size → MRep base R m w → Rels R args args' →
  Calls P f args' w fun e w' => ∃ v v' R' m', e = .returned v' ∧ Rel R' v v' ∧ Post base m m' R R' w w' ∧ Q v m'
theorem ACall.mono {f : FuncId} {args : Array Value} {Q Q' : Value → AM → Prop} (h : ACall P f args m Q) (hq : ∀ v m', Q v m' → Q' v m') : ACall P f args m Q' :=
 fun base R w args' hb hm ha => (h base R w args' hb hm ha).mono fun _ _ ⟨v, v', R', m', h1, h2, h3, h4⟩ => ⟨v, v', R', m', h1, h2, h3, hq _ _ h4⟩
def ares1 (P : Program) (t : Fm) (m : AM) : ResultVar → Option Value
 | .tmp i => t i
 | .cell a ty => match t a with
  | some p => aload P m ty p
  | none => none
def aresL (P : Program) (t : Fm) (m : AM) : List ResultVar → Option (List Value)
 | [] => some []
 | r :: rest => match ares1 P t m r, aresL P t m rest with
  | some v, some l => some (v :: l)
  | _, _ => none
def ares (P : Program) (fn : Func) (t : Fm) (m : AM) : Option Value :=
 match aresL P t m fn.results.toList with
 | some [v] => some v
 | some l => some (.tuple l.toArray)
 | none => none
theorem aresL_ok {n : Nat} (h : MRep base R m w) (ht : FR R n t u) : ∀ (l : List ResultVar) (vs : List Value), aresL P t m l = some vs →
  ∃ vs', RelL R vs vs' ∧ (l.mapM (res1 u)).run P w = .ok vs' w
 | [], vs, he => by simp [aresL] at he; subst he; exact ⟨[], .nil, by simp⟩
 | r :: rest, vs, he => by
  simp only [aresL] at he
  split at he
  ·rename_i v l h1 h2
   injection he with he; subst he
   obtain ⟨l', k1, k2⟩ := aresL_ok h ht rest l h2
   have : ∃ v', Rel R v v' ∧ (res1 u r).run P w = .ok v' w := by
    cases r with
    | tmp i => exact ⟨_, ht.rel i v h1, rfl⟩
    | cell a ty =>
     simp only [ares1] at h1
     split at h1
     ·rename_i p hpa
      have hg := ht.rel a p hpa
      obtain ⟨v', q1, q2⟩ := aload_ok (w := w) h.held hg h1
      refine ⟨v', q2, ?_⟩
      unfold aload at h1
      split at h1
      ·have hres : res1 u (.cell a ty) = (do loadVar ty (← asAddr (u.getD a undef))) := rfl
       rw [hres]
       generalize u.getD a undef = q at hg q1 ⊢
       cases hg
       simpa [Instr.loadAt, Instr.sureAddr, asAddr] using q1
      ·cases h1
     ·cases h1
   obtain ⟨v', q1, q2⟩ := this
   refine ⟨v' :: l', .cons q1 k1, ?_⟩
   simp only [List.mapM_cons]
   simp only [Sem.run_bind, q2, k2, Result.andThen_ok]
   rfl
  ·cases he
theorem ares_ok {fn : Func} {n : Nat} {v : Value} (h : MRep base R m w) (ht : FR R n t u) (he : ares P fn t m = some v) : ∃ v', Rel R v v' ∧ (results fn u).run P w = .ok v' w := by
 unfold ares at he
 have key : ∀ l, aresL P t m fn.results.toList = some l → ∃ l', RelL R l l' ∧ (results fn u).run P w = .ok (if h : l'.toArray.size = 1 then l'.toArray[0] else .tuple l'.toArray) w := fun l hl => by
  obtain ⟨l', k1, k2⟩ := aresL_ok (P := P) h ht _ _ hl
  refine ⟨l', k1, ?_⟩
  rw [results_eq]
  simp only [map_eq_pure_bind, Sem.run_bind, k2, Result.andThen_ok]
  rfl
 split at he
 ·rename_i x hl
  injection he with he; subst he
  obtain ⟨l', k1, k2⟩ := key _ hl
  refine ⟨_, ?_, k2⟩
  match l', k1 with
  | [y], k1 =>
   obtain ⟨v', e1, e2⟩ := k1.2 0 x rfl
   simp at e1; subst e1
   simpa using e2
  | [], k1 => have := k1.1; simp at this
  | _ :: _ :: _, k1 => have := k1.1; simp at this
 ·rename_i l hne hl
  injection he with he; subst he
  obtain ⟨l', k1, k2⟩ := key _ hl
  refine ⟨_, ?_, k2⟩
  match l, l', k1 with
  | [], [], _ => exact .tuple _ _ rfl (fun i hi => absurd hi (by simp))
  | [x], _, _ => exact (hne x rfl).elim
  | x :: y :: r, x' :: y' :: r', k1 =>
   have := k1.rels
   simpa using Rel.tuple _ _ this.1 this.2
  | [], _ :: _, k1 => have := k1.1; simp at this
  | _ :: _ :: _, [], k1 => have := k1.1; simp at this
  | _ :: _ :: _, [_], k1 => have := k1.1; simp at this
 ·cases he
def argF (args : Array Value) : Fm := fun i => args.toList[i]?
def Ends (P : Program) (fn : Func) (Q : Value → AM → Prop) : AEx → Fm → AM → Prop
 | .exit _, _, _ => False
 | _, t, m => ∃ v, ares P fn t m = some v ∧ Q v m
theorem ACall.intro {f : FuncId} {fn : Func} {c : Code} {args : Array Value} {Q : Value → AM → Prop} (hf : P.funcs[f]? = some fn) (hb : fn.body = some c) (hsz : args.size ≤ fn.ntmps)
  (h : AW P fn.ntmps m c (argF args) m (Ends P fn Q)) : ACall P f args m Q := by
 intro base R w args' hbase hm hargs
 refine calls_of_wp hf hb ?_
 have hs := hargs.1
 refine wp_mono (h base R w R ⟨args' ++ Array.replicate (fn.ntmps - args'.size) undef, []⟩ w hbase hm (.refl hm) ⟨by simp; omega, fun i v hi => ?_⟩) ?_
 ·have hi : args[i]? = some v := by simpa [argF] using hi
  have hlt : i < args.size := (Array.getElem?_eq_some_iff.1 hi).1
  have := hargs.2 i hlt
  have e1 : args.getD i undef = v := by
   simp [hi]
  rw [e1] at this
  have e2 : (args' ++ Array.replicate (fn.ntmps - args'.size) undef).getD i undef = args'.getD i undef := by
   simp [Array.getElem?_append_left (show i < args'.size by omega)]
  show Rel R v ((args' ++ Array.replicate (fn.ntmps - args'.size) undef).getD i undef)
  rw [e2]; exact this
 ·rintro ex a' w' ⟨e, t', m', R', rfl, h2, h3, h4, h5⟩
  cases e with
  | exit i => exact h5.elim
  | normal =>
   obtain ⟨v, k1, k2⟩ := h5
   obtain ⟨v', r1, r2⟩ := ares_ok (P := P) h3.rep h4 k1
   exact ⟨h2, v', r2, v, v', R', m', rfl, r1, h3, k2⟩
  | ret =>
   obtain ⟨v, k1, k2⟩ := h5
   obtain ⟨v', r1, r2⟩ := ares_ok (P := P) h3.rep h4 k1
   exact ⟨h2, v', r2, v, v', R', m', rfl, r1, h3, k2⟩
theorem loud_call (hP : Fit P) {o : Oper} {c : Call} {x : Operand} {ev : Operand → Value} {g : FuncId} {first captured : Array Value} {K : Value → AM → Prop} (ho : o.op = .call c) (hc : c.callee = .value x) (hx : ev x = .func (.func g) first captured)
  {fn : Func} {b : Code} (hf : P.funcs[g]? = some fn) (hb : fn.body = some b) (h : ACall P g (first ++ c.args.map ev ++ captured) m K) : Loud P o ev m K := by
 intro base R w a Q next hbase hm hev hn
 obtain ⟨dst, op, type, pos, after, guard⟩ := o
 simp only at ho; subst ho
 obtain ⟨callee, cargs, ctypes⟩ := c
 simp only at hc; subst hc
 have hxr := hev x (by simp [Op.operands, Call.operands])
 rw [hx] at hxr
 generalize hq : a.eval x = q at hxr
 cases hxr with
 | func _ _ _ f' c' k1 k2 k3 k4 =>
  have hargs := rels_map (R := R) (ev := ev) (ev' := a.eval) cargs (fun y hy => hev y (by simp [Op.operands, Call.operands, hy]))
  have hrun : (execOp a.eval { dst := dst, op := .call { callee := .value x, args := cargs, argTypes := ctypes }, type := type, pos := pos, after := after, guard := guard : Oper }).run P w = .ok (.enter g (f' ++ cargs.map a.eval ++ c')) w := by
   simp [execOp, resolve, hq, Deferred.ofValue, invoke, run_enter hf (hP.names _ _ hf) hb]
  unfold Oper.wp
  rw [hrun]
  refine (h base R w _ hbase hm (rels_app (rels_app ⟨k1, k2⟩ hargs) ⟨k3, k4⟩)).mono ?_
  rintro e w' ⟨v, v', R', m', rfl, q1, q2, q3⟩
  exact hn R' v v' m' w' q1 q2 q3
end
def evD (t : Fm) : Operand → Value := fun x => (evo t x).getD undef
theorem evD_of {t : Fm} {x : Operand} {v : Value} (h : evo t x = some v) : evD t x = v := by simp [evD, h]
theorem kn_of {t : Fm} {o : Oper} (h : ∀ x ∈ o.op.operands.toList, ∃ v, evo t x = some v) : Kn t o (evD t) := fun x hx => by
 obtain ⟨v, hv⟩ := h x (by simpa using hx)
 rw [hv, evD_of hv]
def Rd (m : AM) (i o : Nat) (v : Value) : Prop := ∃ b, m[i]? = some (some b) ∧ b.cells[o]? = some v
def Sl (v : Value) (a o n : Nat) : Prop := (v = .slice none 0 0 ∧ n = 0) ∨ (∃ c, n ≤ c ∧ v = .slice (some ⟨a, o, none⟩) n c) ∨ (n = 0 ∧ ∃ o' k, v = .slice (some ⟨a, o', some k⟩) 0 0)
def slB (P : Program) (T : TypeId) : Bool := match P.underlying T with
 | some (.slice _) => true
 | _ => false
def elB (P : Program) (T : TypeId) : Option Nat := match P.underlying T with
 | some (.slice e) => szB P e
 | _ => none
def arB (P : Program) (T : TypeId) : Option (Nat × Nat) := match P.underlying T with
 | some (.array n e) => (szB P e).map fun s => (n, s)
 | _ => none
def foB (P : Program) (T : TypeId) (f : Nat) : Option Nat := match P.underlying T with
 | some (.struct fs) => match fs[f]? with
  | some fd => match szB P fd.type with
   | some (_ + 1) => some fd.offset
   | _ => none
  | none => none
 | _ => none
section
variable {P : Program} {nt : Nat} {ops : Array Oper} {t : Fm} {m : AM} {K : Fm → AM → Prop} {d T : Nat} {p : String} {af : Array Edge}
theorem Step.q {o : Oper} {v : Value} (hd : o.dst = some d) (hg : o.guard = none) (hlt : Nat.blt d nt = true) (hk : ∀ x ∈ o.op.operands.toList, ∃ v, evo t x = some v) (hq : aquiet P o (evD t) m = some v) (hK : K (put t d v) m) : Step P nt ops o t m K := by
 refine ⟨fun e he => ?_, ?_⟩
 ·rw [hd] at he; injection he with he; subst he; simpa using hlt
 ·rw [hg]
  exact ⟨evD t, kn_of hk, .inl ⟨v, hq, by rw [hd]; exact hK⟩⟩
theorem Step.l {o : Oper} (hd : o.dst = some d) (hg : o.guard = none) (hlt : Nat.blt d nt = true) (hs : stillB P o.op = false) (hk : ∀ x ∈ o.op.operands.toList, ∃ v, evo t x = some v) (hl : Loud P o (evD t) m fun v m' => K (put t d v) m') : Step P nt ops o t m K := by
 refine ⟨fun e he => ?_, ?_⟩
 ·rw [hd] at he; injection he with he; subst he; simpa using hlt
 ·rw [hg]
  exact ⟨evD t, kn_of hk, .inr ⟨hs, by rw [hd]; exact hl⟩⟩
theorem Step.l0 {o : Oper} (hd : o.dst = none) (hg : o.guard = none) (hs : stillB P o.op = false) (hk : ∀ x ∈ o.op.operands.toList, ∃ v, evo t x = some v) (hl : Loud P o (evD t) m fun _ m' => K t m') : Step P nt ops o t m K := by
 refine ⟨fun e he => (by rw [hd] at he; cases he), ?_⟩
 rw [hg]
 exact ⟨evD t, kn_of hk, .inr ⟨hs, by rw [hd]; exact hl⟩⟩
theorem Step.gd {o : Op} {dd : Option Tmp} {j : Nat} {b q : Bool} (hd : ∀ d, dd = some d → d < nt) (hv : gval ops t j = some (.bool q)) (h1 : q = b → Step P nt ops ⟨dd, o, T, p, af, none⟩ t m K) (h2 : q = !b → K (putO t dd undef) m) : Step P nt ops ⟨dd, o, T, p, af, some (j, b)⟩ t m K := by
 refine ⟨hd, .bool q, hv, ?_⟩
 by_cases h : q = b
 ·subst h
  rw [if_pos (by simp [wantB])]
  have := (h1 rfl).2
  exact this
 ·rw [if_neg (by simp [wantB, h])]
  exact h2 (by cases q <;> cases b <;> simp_all)
theorem Step.move {x : Operand} {v : Value} (hx : evo t x = some v) (hlt : Nat.blt d nt = true) (hK : K (put t d v) m) : Step P nt ops ⟨some d, .move x, T, p, af, none⟩ t m K :=
 .q rfl rfl hlt (by simp [Op.operands, hx]) (by simp [aquiet, evD_of hx]) hK
theorem Step.assign {x : Operand} {v : Value} (hx : evo t x = some v) (hlt : Nat.blt d nt = true) (hK : K (put t d v) m) : Step P nt ops ⟨some d, .assign x, T, p, af, none⟩ t m K :=
 .q rfl rfl hlt (by simp [Op.operands, hx]) (by simp [aquiet, evD_of hx]) hK
theorem Step.pick {c x y : Operand} {q : Bool} {v u : Value} (hc : evo t c = some (.bool q)) (hx : evo t x = some v) (hy : evo t y = some u) (hlt : Nat.blt d nt = true) (h1 : q = true → K (put t d v) m) (h2 : q = false → K (put t d u) m) : Step P nt ops ⟨some d, .pick c x y, T, p, af, none⟩ t m K := by
 refine .q rfl rfl hlt (by simp [Op.operands, hc, hx, hy]) (v := if q then v else u) (by simp [aquiet, evD_of hc, evD_of hx, evD_of hy]) ?_
 cases q
 ·exact h2 rfl
 ·exact h1 rfl
theorem Step.load {x : Operand} {ty i o : Nat} {v : Value} (hx : evo t x = some (.pointer (some ⟨i, o, none⟩))) (hg : aggB P ty = some false) (hlt : Nat.blt d nt = true) (hr : Rd m i o v) (hK : K (put t d v) m) : Step P nt ops ⟨some d, .load ty x, T, p, af, none⟩ t m K := by
 obtain ⟨b, h1, h2⟩ := hr
 exact .q rfl rfl hlt (by simp [Op.operands, hx]) (by simp [aquiet, evD_of hx, aload, hg, h1, h2]) hK
theorem Step.loads {x : Operand} {ty i o n : Nat} {b : Blk} {c : List Value} (hx : evo t x = some (.pointer (some ⟨i, o, none⟩))) (hg : aggB P ty = some true) (hn : szB P ty = some n) (hlt : Nat.blt d nt = true) (h1 : m[i]? = some (some b)) (h2 : (b.cells.drop o).take n = c) (h3 : c.length = n) (hn1 : 1 ≤ n) (hK : K (put t d (.agg c.toArray)) m) :
  Step P nt ops ⟨some d, .load ty x, T, p, af, none⟩ t m K := by
 have h0 : o + n ≤ b.cells.length := by
  rw [← h2] at h3
  simp at h3
  omega
 exact .q rfl rfl hlt (by simp [Op.operands, hx]) (by simp [aquiet, evD_of hx, aload, hg, hn, h1, h0, h2]) hK
theorem Step.field {x : Operand} {s f i o k : Nat} (hx : evo t x = some (.pointer (some ⟨i, o, none⟩))) (hf : foB P s f = some k) (hlt : Nat.blt d nt = true) (hK : K (put t d (.pointer (some ⟨i, o + k, none⟩))) m) : Step P nt ops ⟨some d, .fieldAddr s x f, T, p, af, none⟩ t m K := by
 refine .q rfl rfl hlt (by simp [Op.operands, hx]) ?_ hK
 unfold foB at hf
 simp only [aquiet, evD_of hx, afield]
 split at hf
 ·rename_i fs hu
  rw [hu]
  simp only
  split at hf
  ·rename_i fd hfd
   first | (rw [hfd]; simp only) | simp only | skip
   split at hf
   ·rename_i q hq
    first | rw [hq] | skip
    injection hf with hf
    simp [hf]
   ·cases hf
  ·cases hf
 ·cases hf
theorem Step.field0 {x : Operand} {s f i o : Nat} (hx : evo t x = some (.pointer (some ⟨i, o, none⟩))) (hf : foB P s f = some 0) (hlt : Nat.blt d nt = true) (hK : K (put t d (.pointer (some ⟨i, o, none⟩))) m) : Step P nt ops ⟨some d, .fieldAddr s x f, T, p, af, none⟩ t m K :=
 .field hx hf hlt hK
theorem Step.ix {x y : Operand} {s a o n k X : Nat} {kk : IntKind} {v : Value} (hx : evo t x = some v) (hs : Sl v a o n) (hy : evo t y = some (.int kk ((k : Nat) : Int))) (he : elB P X = some s) (hlt : Nat.blt d nt = true) (hk : k < n) (hK : K (put t d (.pointer (some ⟨a, o + k * s, none⟩))) m) : Step P nt ops ⟨some d, .indexAddr X x y, T, p, af, none⟩ t m K := by
 refine .q rfl rfl hlt (by simp [Op.operands, hx, hy]) ?_ hK
 rcases hs with ⟨_, hn⟩ | ⟨c, hc, rfl⟩ | ⟨hn, _⟩
 ·omega
 ·unfold elB at he
  split at he
  ·rename_i e hu
   simp only [aquiet, evD_of hx, evD_of hy, aindex, hu, he]
   rw [if_pos (by omega)]
   simp
  ·cases he
 ·omega
theorem Step.ix1 {x y : Operand} {a o n k X : Nat} {kk : IntKind} {v : Value} (hx : evo t x = some v) (hs : Sl v a o n) (hy : evo t y = some (.int kk ((k : Nat) : Int))) (he : elB P X = some 1) (hlt : Nat.blt d nt = true) (hk : k < n) (hK : K (put t d (.pointer (some ⟨a, o + k, none⟩))) m) : Step P nt ops ⟨some d, .indexAddr X x y, T, p, af, none⟩ t m K :=
 .ix hx hs hy he hlt hk (by simpa using hK)
theorem Step.ixA {x y : Operand} {s i o n k X : Nat} {kk : IntKind} (hx : evo t x = some (.pointer (some ⟨i, o, none⟩))) (hy : evo t y = some (.int kk ((k : Nat) : Int))) (he : arB P X = some (n, s)) (hlt : Nat.blt d nt = true) (hk : k < n) (hK : K (put t d (.pointer (some ⟨i, o + k * s, none⟩))) m) : Step P nt ops ⟨some d, .indexAddr X x y, T, p, af, none⟩ t m K := by
 refine .q rfl rfl hlt (by simp [Op.operands, hx, hy]) ?_ hK
 unfold arB at he
 split at he
 ·rename_i n' e hu
  cases hz : szB P e with
  | none => simp [hz] at he
  | some s' =>
   simp only [hz, Option.map_some, Option.some.injEq, Prod.mk.injEq] at he
   obtain ⟨rfl, rfl⟩ := he
   simp only [aquiet, evD_of hx, evD_of hy, aindex, hu, hz]
   rw [if_pos (by omega)]
   simp
 ·cases he
theorem Step.extract {x : Operand} {vs : Array Value} {i : Nat} {v : Value} (hx : evo t x = some (.tuple vs)) (hi : vs.toList[i]? = some v) (hlt : Nat.blt d nt = true) (hK : K (put t d v) m) : Step P nt ops ⟨some d, .extract x i, T, p, af, none⟩ t m K := by
 have hi' : vs[i]? = some v := by simpa using hi
 exact .q rfl rfl hlt (by simp [Op.operands, hx]) (by simp [aquiet, evD_of hx, hi']) hK
theorem Step.nilp {x : Operand} {i o : Nat} (hx : evo t x = some (.pointer (some ⟨i, o, none⟩))) (hlt : Nat.blt d nt = true) (hK : K (put t d (.pointer (some ⟨i, o, none⟩))) m) : Step P nt ops ⟨some d, .nilCheck x, T, p, af, none⟩ t m K :=
 .q rfl rfl hlt (by simp [Op.operands, hx]) (by simp [aquiet, evD_of hx, anilCheck]) hK
def evL (t : Fm) : List Operand → Option (List Value)
 | [] => some []
 | x :: l => match evo t x, evL t l with
  | some v, some k => some (v :: k)
  | _, _ => none
theorem evL_of {t : Fm} : ∀ {l : List Operand} {vs : List Value}, evL t l = some vs → (∀ x ∈ l, ∃ v, evo t x = some v) ∧ l.map (evD t) = vs
 | [], vs, h => by simp [evL] at h; subst h; simp
 | x :: l, vs, h => by
  simp only [evL] at h
  split at h
  ·rename_i v k h1 h2
   injection h with h; subst h
   obtain ⟨k1, k2⟩ := evL_of h2
   exact ⟨fun y hy => by
    rcases List.mem_cons.1 hy with rfl | hy
    ·exact ⟨v, h1⟩
    ·exact k1 y hy, by simp [evD_of h1, k2]⟩
  ·cases h
theorem Step.fn {fn : Fn} {f c : Array Operand} {vf vc : List Value} (hf : evL t f.toList = some vf) (hc : evL t c.toList = some vc) (hlt : Nat.blt d nt = true) (hK : K (put t d (.func fn vf.toArray vc.toArray)) m) : Step P nt ops ⟨some d, .makeFunc fn f c, T, p, af, none⟩ t m K := by
 obtain ⟨f1, f2⟩ := evL_of hf
 obtain ⟨c1, c2⟩ := evL_of hc
 refine .q rfl rfl hlt (fun x hx => ?_) ?_ hK
 ·simp only [Op.operands, Array.toList_append, List.mem_append] at hx
  exact hx.elim (f1 x) (c1 x)
 ·simp only [aquiet, Option.some.injEq, Value.func.injEq, true_and]
  refine ⟨?_, ?_⟩
  ·rw [← f2]; apply Array.ext'; simp
  ·rw [← c2]; apply Array.ext'; simp
theorem Step.bin {op : BinOp} {X Y : TypeId} {x y : Operand} {u w v : Value} (hx : evo t x = some u) (hy : evo t y = some w) (hv : aint op u w = some v) (hlt : Nat.blt d nt = true) (hK : K (put t d v) m) : Step P nt ops ⟨some d, .binOp op X x y Y, T, p, af, none⟩ t m K :=
 .q rfl rfl hlt (by simp [Op.operands, hx, hy]) (by simp [aquiet, evD_of hx, evD_of hy, hv]) hK
section ints
variable {X Y : TypeId} {x y : Operand} {a b : Int} {k : IntKind}
theorem Step.add (hx : evo t x = some (.int .i64 a)) (hy : evo t y = some (.int .i64 b)) (hr : -9223372036854775808 ≤ a + b ∧ a + b ≤ 9223372036854775807) (hlt : Nat.blt d nt = true) (hK : K (put t d (.int .i64 (a + b))) m) : Step P nt ops ⟨some d, .binOp .add X x y Y, T, p, af, none⟩ t m K :=
 .bin hx hy (by simp [aint, IntWalk.i64_in _ hr]) hlt hK
theorem Step.sub (hx : evo t x = some (.int .i64 a)) (hy : evo t y = some (.int .i64 b)) (hr : -9223372036854775808 ≤ a - b ∧ a - b ≤ 9223372036854775807) (hlt : Nat.blt d nt = true) (hK : K (put t d (.int .i64 (a - b))) m) : Step P nt ops ⟨some d, .binOp .sub X x y Y, T, p, af, none⟩ t m K :=
 .bin hx hy (by simp [aint, IntWalk.i64_in _ hr]) hlt hK
theorem Step.mul (hx : evo t x = some (.int .i64 a)) (hy : evo t y = some (.int .i64 b)) (hr : -9223372036854775808 ≤ a * b ∧ a * b ≤ 9223372036854775807) (hlt : Nat.blt d nt = true) (hK : K (put t d (.int .i64 (a * b))) m) : Step P nt ops ⟨some d, .binOp .mul X x y Y, T, p, af, none⟩ t m K :=
 .bin hx hy (by simp [aint, IntWalk.i64_in _ hr]) hlt hK
theorem Step.lss (hx : evo t x = some (.int k a)) (hy : evo t y = some (.int k b)) (hlt : Nat.blt d nt = true) (hK : K (put t d (.bool (decide (a < b)))) m) : Step P nt ops ⟨some d, .binOp .lss X x y Y, T, p, af, none⟩ t m K :=
 .bin hx hy (by simp [aint]) hlt hK
theorem Step.leq (hx : evo t x = some (.int k a)) (hy : evo t y = some (.int k b)) (hlt : Nat.blt d nt = true) (hK : K (put t d (.bool (decide (a ≤ b)))) m) : Step P nt ops ⟨some d, .binOp .leq X x y Y, T, p, af, none⟩ t m K :=
 .bin hx hy (by simp [aint]) hlt hK
theorem Step.gtr (hx : evo t x = some (.int k a)) (hy : evo t y = some (.int k b)) (hlt : Nat.blt d nt = true) (hK : K (put t d (.bool (decide (b < a)))) m) : Step P nt ops ⟨some d, .binOp .gtr X x y Y, T, p, af, none⟩ t m K :=
 .bin hx hy (by simp [aint]) hlt hK
theorem Step.geq (hx : evo t x = some (.int k a)) (hy : evo t y = some (.int k b)) (hlt : Nat.blt d nt = true) (hK : K (put t d (.bool (decide (b ≤ a)))) m) : Step P nt ops ⟨some d, .binOp .geq X x y Y, T, p, af, none⟩ t m K :=
 .bin hx hy (by simp [aint]) hlt hK
theorem Step.eql (hx : evo t x = some (.int k a)) (hy : evo t y = some (.int k b)) (hlt : Nat.blt d nt = true) (hK : K (put t d (.bool (decide (a = b)))) m) : Step P nt ops ⟨some d, .binOp .eql X x y Y, T, p, af, none⟩ t m K :=
 .bin hx hy (by simp [aint]) hlt hK
theorem Step.neq (hx : evo t x = some (.int k a)) (hy : evo t y = some (.int k b)) (hlt : Nat.blt d nt = true) (hK : K (put t d (.bool (!decide (a = b)))) m) : Step P nt ops ⟨some d, .binOp .neq X x y Y, T, p, af, none⟩ t m K :=
 .bin hx hy (by simp [aint]) hlt hK
theorem Step.ground {o : Oper} {v : Value} (hd : o.dst = some d) (hg : o.guard = none) (hlt : Nat.blt d nt = true) (hk : ∀ x ∈ o.op.operands.toList, ∃ v, evo t x = some v ∧ g1 v = true) (hq : aground P o (evD t) = some v → aquiet P o (evD t) m = some v)
  (hst : Sim.still P (execOp (evD t) o) = some (.value v)) (hv : g1 v = true) (hK : K (put t d v) m) : Step P nt ops o t m K := by
 refine .q hd hg hlt (fun x hx => by obtain ⟨u, h, _⟩ := hk x hx; exact ⟨u, h⟩) (hq ?_) hK
 unfold aground
 rw [if_pos ?_]
 ·simp [hst, hv]
 ·rw [Array.all_eq_true_iff_forall_mem]
  intro x hx
  obtain ⟨u, h, h'⟩ := hk x (by simpa using hx)
  simpa [evD_of h] using h'
theorem Step.quo (hx : evo t x = some (.int .i64 a)) (hy : evo t y = some (.int .i64 b)) (ha : 0 ≤ a ∧ a ≤ 9223372036854775807) (hb : 1 ≤ b) (hlt : Nat.blt d nt = true) (hK : K (put t d (.int .i64 (a / b))) m) : Step P nt ops ⟨some d, .binOp .quo X x y Y, T, p, af, none⟩ t m K := by
 have hq : IntKind.i64.wrap (a.tdiv b) = a / b := by
  rw [Int.tdiv_eq_ediv_of_nonneg ha.1]
  have h1 : a / b ≤ a := Int.ediv_le_self _ ha.1
  have h2 : 0 ≤ a / b := Int.ediv_nonneg ha.1 (by omega)
  exact IntWalk.i64_in _ (by omega)
 refine .ground rfl rfl hlt (by simp [Op.operands, hx, hy, g1, g0]) (fun h => by simp only [aquiet, evD_of hx, evD_of hy, aint, anil]; simpa [evD_of hx, evD_of hy] using h) ?_ (by simp [g1, g0]) hK
 simp [execOp, eqGuard, binOp, evD_of hx, evD_of hy, Op.intDiv, show ¬ b = 0 by omega, hq, bind, Sem.bind, pure, Sim.still]
end ints
theorem Step.not {x : Operand} {X : TypeId} {q : Bool} (hx : evo t x = some (.bool q)) (hlt : Nat.blt d nt = true) (hK : K (put t d (.bool !q)) m) : Step P nt ops ⟨some d, .unOp .not X x, T, p, af, none⟩ t m K :=
 .ground rfl rfl hlt (by simp [Op.operands, hx, g1, g0]) (fun h => by simpa [aquiet] using h) (by simp [execOp, Op.unary, evD_of hx, bind, Sem.bind, pure, Sim.still]) (by simp [g1, g0]) hK
theorem Step.neg {x : Operand} {X : TypeId} {a : Int} (hx : evo t x = some (.int .i64 a)) (hr : -9223372036854775807 ≤ a ∧ a ≤ 9223372036854775807) (hlt : Nat.blt d nt = true) (hK : K (put t d (.int .i64 (-a))) m) : Step P nt ops ⟨some d, .unOp .neg X x, T, p, af, none⟩ t m K :=
 .ground rfl rfl hlt (by simp [Op.operands, hx, g1, g0]) (fun h => by simpa [aquiet] using h) (by simp [execOp, Op.unary, Op.intArith, evD_of hx, bind, Sem.bind, pure, Sim.still, IntWalk.i64_in (-a) (by omega)]) (by simp [g1, g0]) hK
theorem Step.len {x : Operand} {X a o n : Nat} {v : Value} (hx : evo t x = some v) (hs : Sl v a o n) (hX : slB P X = true) (hlt : Nat.blt d nt = true) (hK : K (put t d (.int .i64 ((n : Nat) : Int))) m) :
  Step P nt ops ⟨some d, .call ⟨.builtin .len, #[x], #[X]⟩, T, p, af, none⟩ t m K := by
 refine .q rfl rfl hlt (by simp [Op.operands, Call.operands, hx]) ?_ hK
 unfold slB at hX
 split at hX
 ·rename_i e hu
  rcases hs with ⟨rfl, rfl⟩ | ⟨c, hc, rfl⟩ | ⟨rfl, o', k', rfl⟩ <;> simp [aquiet, evD_of hx, alen, hu, aSliceLen]
 ·cases hX
theorem Step.max {x y : Operand} {X Y : TypeId} {a b : Int} {k : IntKind} (hx : evo t x = some (.int k a)) (hy : evo t y = some (.int k b)) (hlt : Nat.blt d nt = true) (hK : K (put t d (.int k (max a b))) m) :
  Step P nt ops ⟨some d, .call ⟨.builtin .max, #[x, y], #[X, Y]⟩, T, p, af, none⟩ t m K := by
 refine .ground rfl rfl hlt (by simp [Op.operands, Call.operands, hx, hy, g1, g0]) (fun h => by simpa [aquiet] using h) ?_ (by simp [g1, g0]) hK
 have : (if b > a then b else a) = Max.max a b := by rw [Int.max_def]; split <;> split <;> omega
 simp [execOp, resolve, invoke, builtin, Builtin.max_, Builtin.max2, evD_of hx, evD_of hy, this, bind, Sem.bind, pure, Sim.still]
theorem Step.min {x y : Operand} {X Y : TypeId} {a b : Int} {k : IntKind} (hx : evo t x = some (.int k a)) (hy : evo t y = some (.int k b)) (hlt : Nat.blt d nt = true) (hK : K (put t d (.int k (min a b))) m) :
  Step P nt ops ⟨some d, .call ⟨.builtin .min, #[x, y], #[X, Y]⟩, T, p, af, none⟩ t m K := by
 refine .ground rfl rfl hlt (by simp [Op.operands, Call.operands, hx, hy, g1, g0]) (fun h => by simpa [aquiet] using h) ?_ (by simp [g1, g0]) hK
 have : (if b < a then b else a) = Min.min a b := by rw [Int.min_def]; split <;> split <;> omega
 simp [execOp, resolve, invoke, builtin, Builtin.min_, Builtin.min2, evD_of hx, evD_of hy, this, bind, Sem.bind, pure, Sim.still]
end
theorem set_app {α : Type} (M L : List α) (k : Nat) (x : α) : (M ++ L).set (M.length + k) x = M ++ L.set k x := by
 rw [List.set_append_right _ _ (by omega)]; congr 1; rw [Nat.add_sub_cancel_left]
theorem get_app {α : Type} (M L : List α) (k : Nat) : (M ++ L)[M.length + k]? = L[k]? := by
 rw [List.getElem?_append_right (by omega)]; congr 1; omega
theorem get_old {α : Type} {M : List α} (L : List α) {a : Nat} {x : α} (h : M[a]? = some x) : (M ++ L)[a]? = some x := by
 rw [List.getElem?_append_left (List.getElem?_eq_some_iff.1 h).1]; exact h
theorem Rd.old {M : AM} (L : AM) {a o : Nat} {v : Value} (h : Rd M a o v) : Rd (M ++ L) a o v := by
 obtain ⟨b, h1, h2⟩ := h
 exact ⟨b, get_old L h1, h2⟩
theorem Rd.new {M L : AM} {k o : Nat} {b : Blk} {v : Value} (h : L[k]? = some (some b)) (hv : b.cells[o]? = some v) : Rd (M ++ L) (M.length + k) o v :=
 ⟨b, by rw [get_app]; exact h, hv⟩
section
variable {P : Program} {nt : Nat} {ops : Array Oper} {t : Fm} {m : AM} {K : Fm → AM → Prop} {d T : Nat} {p : String} {af : Array Edge}
theorem loudN {o : Oper} {ev : Operand → Value} {K : Value → AM → Prop} {v : Value} {M L L' : AM} {k : Nat} (hk : L.length = k) (hn : needsNew o.op = true) (h : aloud P o ev ((M ++ L) ++ [none]) (M.length + k) = some (v, M ++ L')) (hK : K v (M ++ L')) : Loud P o ev (M ++ L) K :=
 loud_of_aloud hn (by rw [List.length_append, hk]; exact h) hK
theorem set_new_at {α : Type} (M L : List α) {k : Nat} (hk : L.length = k) (x y : α) : ((M ++ L) ++ [y]).set (M.length + k) x = M ++ (L ++ [x]) := by
 rw [List.append_assoc, set_app, List.set_append_right _ _ (by omega)]
 simp [hk]
theorem Step.alloc {ty : TypeId} {z : Array Value} {M L L' : AM} (k : Nat) (hk : L.length = k) (hz : zeroB P ty = some z) (hlt : Nat.blt d nt = true) (hL : L ++ [some { cells := z.toList }] = L') (hK : K (put t d (.pointer (some ⟨M.length + k, 0, none⟩))) (M ++ L')) :
  Step P nt ops ⟨some d, .alloc ty, T, p, af, none⟩ t (M ++ L) K := by
 subst hL
 refine .l rfl rfl hlt rfl (by simp [Op.operands]) (loudN hk rfl (v := .pointer (some ⟨M.length + k, 0, none⟩)) ?_ hK)
 simp [aloud, hz, set_new_at M L hk, -List.append_assoc]
theorem Step.box {x : Operand} {ty : TypeId} {v : Value} {M L L' : AM} (k : Nat) (hk : L.length = k) (hx : evo t x = some v) (h1 : v.cells.all (·.oneCell') = true) (hlt : Nat.blt d nt = true) (hL : L ++ [some { cells := v.cells.toList }] = L') (hK : K (put t d (.pointer (some ⟨M.length + k, 0, none⟩))) (M ++ L')) :
  Step P nt ops ⟨some d, .box ty x, T, p, af, none⟩ t (M ++ L) K := by
 subst hL
 refine .l rfl rfl hlt rfl (by simp [Op.operands, hx]) (loudN hk rfl (v := .pointer (some ⟨M.length + k, 0, none⟩)) ?_ hK)
 simp only [aloud, evD_of hx]
 rw [if_pos h1, set_new_at M L hk]
theorem Step.make {x y : Operand} {X : TypeId} {n : Nat} {kx ky : IntKind} {e : TypeId} {s by_ : Nat} {z : Array Value} {M L L' : AM} (k : Nat) (hk : L.length = k) (hx : evo t x = some (.int kx ((n : Nat) : Int))) (hy : evo t y = some (.int ky ((n : Nat) : Int))) (he : elemB P X = some (e, s, by_, z)) (hb : by_ * n ≤ 281474976710656 ∧ n ≤ 9223372036854775807 ∧ s ≠ 0)
  (hlt : Nat.blt d nt = true) (hL : L ++ [some { cells := (madeCells z (n * s)).toList }] = L') (hK : K (put t d (.slice (some ⟨M.length + k, 0, none⟩) n n)) (M ++ L')) :
  Step P nt ops ⟨some d, .makeSlice X x y, T, p, af, none⟩ t (M ++ L) K := by
 subst hL
 refine .l rfl rfl hlt rfl (by simp [Op.operands, hx, hy]) (loudN hk rfl (v := .slice (some ⟨M.length + k, 0, none⟩) n n) ?_ hK)
 obtain ⟨b1, b2, b3⟩ := hb
 simp only [aloud, evD_of hx, evD_of hy, amake, he]
 rw [if_pos ⟨by omega, by omega, by omega, by omega, b3⟩, set_new_at M L hk]
 simp
theorem madeCells_one (v : Value) (n : Nat) : (madeCells #[v] (n * 1)).toList = List.replicate n v := by
 apply List.ext_getElem?
 intro i
 simp only [madeCells, Array.toList_map, Nat.mul_one, List.getElem?_map, List.getElem?_replicate, Array.getElem?_toList]
 by_cases h : i < n
 ·simp [h, Nat.mod_one]
 ·simp [h]
theorem Step.make1 {x y : Operand} {X : TypeId} {n : Nat} {kx ky : IntKind} {e : TypeId} {by_ : Nat} {z : Value} {M L L' : AM} (k : Nat) (hk : L.length = k) (hx : evo t x = some (.int kx ((n : Nat) : Int))) (hy : evo t y = some (.int ky ((n : Nat) : Int))) (he : elemB P X = some (e, 1, by_, #[z])) (hb : by_ * n ≤ 281474976710656 ∧ n ≤ 9223372036854775807)
  (hlt : Nat.blt d nt = true) (hL : L ++ [some { cells := List.replicate n z }] = L') (hK : K (put t d (.slice (some ⟨M.length + k, 0, none⟩) n n)) (M ++ L')) :
  Step P nt ops ⟨some d, .makeSlice X x y, T, p, af, none⟩ t (M ++ L) K :=
 .make k hk hx hy he ⟨hb.1, hb.2, by omega⟩ hlt (by rw [madeCells_one]; exact hL) hK
theorem Step.store {x y : Operand} {ty : TypeId} {k o : Nat} {v : Value} {b : Blk} {M L L' : AM} (hx : evo t x = some (.pointer (some ⟨M.length + k, o, none⟩))) (hy : evo t y = some v) (hb : L[k]? = some (some b)) (hs : b.kind.solid = true) (hz : szB P ty = some 1) (hc : v.cells = #[v]) (h1 : v.oneCell' = true) (ho : o < b.cells.length)
  (hL : L.set k (some { b with cells := b.cells.set o v }) = L') (hK : K t (M ++ L')) : Step P nt ops ⟨none, .store ty x y, T, p, af, none⟩ t (M ++ L) K := by
 subst hL
 refine .l0 rfl rfl rfl (by simp [Op.operands, hx, hy]) (loud_of_aloud0 (v := undef) (m' := M ++ L.set k (some { b with cells := b.cells.set o v })) rfl ?_ hK)
 have hsp : splice b.cells o [v] = b.cells.set o v := by
  unfold splice
  rw [List.set_eq_take_append_cons_drop]
  simp [ho]
 simp only [aloud, evD_of hx, evD_of hy, astore, get_app, hb, hz, hc]
 rw [if_pos (by simp [hs, h1]; omega)]
 simp [set_app, hsp]
theorem Step.stores {x y : Operand} {ty : TypeId} {k o n : Nat} {v : Value} {b : Blk} {M L L' : AM} (hx : evo t x = some (.pointer (some ⟨M.length + k, o, none⟩))) (hy : evo t y = some v) (hb : L[k]? = some (some b)) (hs : b.kind.solid = true) (hz : szB P ty = some n) (hc : v.cells.size = n) (h1 : v.cells.all (·.oneCell') = true) (ho : o + n ≤ b.cells.length)
  (hL : L.set k (some { b with cells := splice b.cells o v.cells.toList }) = L') (hK : K t (M ++ L')) : Step P nt ops ⟨none, .store ty x y, T, p, af, none⟩ t (M ++ L) K := by
 subst hL
 refine .l0 rfl rfl rfl (by simp [Op.operands, hx, hy]) (loud_of_aloud0 (v := undef) (m' := M ++ L.set k (some { b with cells := splice b.cells o v.cells.toList })) rfl ?_ hK)
 simp only [aloud, evD_of hx, evD_of hy, astore, get_app, hb, hz]
 rw [if_pos (by rw [h1]; simp [hs, hc]; omega)]
 simp [set_app]
theorem Step.call {x : Operand} {args : Array Operand} {tys : Array TypeId} {g : FuncId} {f c : Array Value} {vs : List Value} {fn : Func} {b : Code} {m : AM} {Q : Value → AM → Prop} (hP : Fit P) (hx : evo t x = some (.func (.func g) f c)) (ha : evL t args.toList = some vs) (hf : P.funcs[g]? = some fn) (hb : fn.body = some b)
  (hlt : Nat.blt d nt = true) (h : ACall P g (f ++ vs.toArray ++ c) m Q) (hK : ∀ v m', Q v m' → K (put t d v) m') : Step P nt ops ⟨some d, .call ⟨.value x, args, tys⟩, T, p, af, none⟩ t m K := by
 obtain ⟨a1, a2⟩ := evL_of ha
 refine .l rfl rfl hlt rfl (fun y hy => ?_) (loud_call hP (g := g) (first := f) (captured := c) rfl rfl (evD_of hx) hf hb ?_)
 ·simp only [Op.operands, Call.operands, Array.toList_append, List.mem_append] at hy
  rcases hy with hy | hy
  ·simp at hy; subst hy; exact ⟨_, hx⟩
  ·exact a1 y hy
 ·have e : (args.map (evD t)) = vs.toArray := by rw [← a2]; apply Array.ext'; simp
  rw [e]
  exact h.mono hK
theorem Step.callF {args : Array Operand} {tys : Array TypeId} {g : FuncId} {vs : List Value} {fn : Func} {b : Code} {m : AM} {Q : Value → AM → Prop} (hP : Fit P) (ha : evL t args.toList = some vs) (hf : P.funcs[g]? = some fn) (hb : fn.body = some b)
  (hlt : Nat.blt d nt = true) (h : ACall P g vs.toArray m Q) (hK : ∀ v m', Q v m' → K (put t d v) m') : Step P nt ops ⟨some d, .call ⟨.value (.func g), args, tys⟩, T, p, af, none⟩ t m K :=
 .call hP rfl ha hf hb hlt (by simpa using h) hK
end
section
variable {P : Program} {nt id : Nat} {m m0 : AM} {t : Fm} {Q : AEx → Fm → AM → Prop} {K : Fm → AM → Prop}
theorem Then.n (h : K t m) : Then K Q .normal t m := h
theorem Then.e {i : Nat} (h : Q (.exit i) t m) : Then K Q (.exit i) t m := h
theorem Then.r (h : Q .ret t m) : Then K Q .ret t m := h
theorem InBlk.n (h : Q .normal t m) : InBlk id Q .normal t m := h
theorem InBlk.r (h : Q .ret t m) : InBlk id Q .ret t m := h
theorem InBlk.hit (h : Q .normal t m) : InBlk id Q (.exit id) t m := by simp only [InBlk, if_true]; exact h
theorem InBlk.miss {i : Nat} (hne : Nat.beq i id = false) (h : Q (.exit i) t m) : InBlk id Q (.exit i) t m := by
 have : i ≠ id := fun e => by rw [e] at hne; simp at hne
 simp only [InBlk, if_neg this]; exact h
theorem AW.condT {c : Operand} {a b : Code} {q : Bool} (hc : evo t c = some (.bool q)) (hq : q = true) (h : AW P nt m0 a t m Q) : AW P nt m0 (.cond c a b) t m Q := .cond hc (fun _ => h) (fun e => by rw [hq] at e; cases e)
theorem AW.condF {c : Operand} {a b : Code} {q : Bool} (hc : evo t c = some (.bool q)) (hq : q = false) (h : AW P nt m0 b t m Q) : AW P nt m0 (.cond c a b) t m Q := .cond hc (fun e => by rw [hq] at e; cases e) (fun _ => h)
def All (p : Nat → Value → Prop) : List (Nat × Value) → Prop
 | [] => True
 | (d, v) :: l => p d v ∧ All p l
theorem fr_all {p : Nat → Value → Prop} : ∀ {l : List (Nat × Value)}, All p l → ∀ i v, fr l i = some v → p i v
 | [], _, i, v, h => by simp [fr] at h
 | (d, x) :: l, ⟨h1, h2⟩, i, v, h => by
  by_cases e : i = d
  ·subst e
   simp only [fr, put_same, Option.some.injEq] at h
   subst h; exact h1
  ·simp only [fr, put_ne _ _ e] at h
   exact fr_all h2 i v h
theorem AW.weak {c : Code} {t1 : Fm} (hs : ∀ i v, t1 i = some v → t i = some v) (h : AW P nt m0 c t1 m Q) : AW P nt m0 c t m Q :=
 fun base R0 w0 R a w hb h0 hp ht => h base R0 w0 R a w hb h0 hp (ht.weak hs)
theorem AW.loopW {c : Code} (I : Nat → Fm → AM → Prop) (h0 : ∃ k l, All (fun i v => t i = some v) l ∧ I k (fr l) m)
  (round : ∀ k t m, I k t m → AW P nt m0 c t m (Then (fun t' m' => ∃ k' l, k' < k ∧ All (fun i v => t' i = some v) l ∧ I k' (fr l) m') Q)) : AW P nt m0 (.loop c) t m Q := by
 obtain ⟨k, l, h1, h2⟩ := h0
 refine .weak (fr_all h1) ?_
 intro base R0 w0 R ac w hb hm0 hp ht
 let J : Nat → Act → World → Prop := fun k a w => ∃ t m R, I k t m ∧ Post base m0 m R0 R w0 w ∧ FR R nt t a.tmps ∧ a.defers = ac.defers
 have hJ0 : ∃ k, J k ac w := ⟨k, fr l, m, R, h2, hp, ht, rfl⟩
 open Classical in
 let μ : Act → World → Nat := fun a w => if h : ∃ k, J k a w then Classical.choose (least _ h) else 0
 have hμ : ∀ a w (h : ∃ k, J k a w), J (μ a w) a w ∧ ∀ k, J k a w → μ a w ≤ k := fun a w h => by
  have hs := Classical.choose_spec (least _ h)
  have e : μ a w = Classical.choose (least _ h) := dif_pos h
  rw [e]
  exact ⟨hs.1, fun k hk => Nat.le_of_not_lt fun hlt => hs.2 k hlt hk⟩
 refine wp_loop (fun a w => ∃ k, J k a w) μ hJ0 fun a w hJ => ?_
 obtain ⟨⟨t2, m2, R2, q1, q2, q3, q4⟩, _⟩ := hμ a w hJ
 refine wp_mono (round _ _ _ q1 base R0 w0 R2 a w hb hm0 q2 q3) ?_
 rintro ex a' w' ⟨e, t', m', R', rfl, h2, h3, h4, h5⟩
 cases e with
 | normal =>
  obtain ⟨k', l', r1, r2, r3⟩ := h5
  have hJ' : J k' a' w' := ⟨fr l', m', R', r3, h3, h4.weak (fr_all r2), h2.trans q4⟩
  exact ⟨⟨k', hJ'⟩, Nat.lt_of_le_of_lt ((hμ a' w' ⟨k', hJ'⟩).2 k' hJ') r1⟩
 | exit i => exact ⟨.exit i, t', m', R', rfl, h2.trans q4, h3, h4, h5⟩
 | ret => exact ⟨.ret, t', m', R', rfl, h2.trans q4, h3, h4, h5⟩
def rid : Nat → Nat := fun i => i
theorem Ren.of_sl {N : Nat} {v : Value} {a o n : Nat} (h : Sl v a o n) (ha : a < N) : Ren rid N v v := by
 rcases h with ⟨rfl, _⟩ | ⟨c, _, rfl⟩ | ⟨_, o', k, rfl⟩
 ·exact .sliceNil
 ·exact .slice a o n c ha
 ·exact .sliceSpot a o' k ha
theorem Ren.of_g0 {N : Nat} {ρ : Nat → Nat} {v : Value} (h : g0 v = true) : Ren ρ N v v := .of_rel (N := 0) (R := fun _ => none) (x := v) (g0_rel h) (fun _ _ => rfl) (Nat.zero_le _) (fun i hi => absurd hi (by omega))
theorem Gc.drop {M L : AM} {l : List (Nat × Value)} (h : All (fun i v => t i = some v ∧ Ren rid M.length v v) l) : Gc M t (M ++ L) (fr l) M :=
 ⟨rid, Nat.le_refl _, fun _ _ => rfl, fun _ _ _ _ _ _ e => e, fun j b hj => .inl ⟨(List.getElem?_eq_some_iff.1 hj).1, get_old L hj, hj⟩, fun i v hi => by
  obtain ⟨h1, h2⟩ := fr_all h i v hi
  exact ⟨v, h1, h2⟩⟩
theorem Gc.trim {M L L1 L2 : AM} {l : List (Nat × Value)} (hL : L = L1 ++ L2) (hc : ∀ b, some b ∈ L1 → isMapK b.kind = false ∧ ∀ v ∈ b.cells, Ren rid (M.length + L1.length) v v) (h : All (fun i v => t i = some v ∧ Ren rid (M.length + L1.length) v v) l) : Gc M t (M ++ L) (fr l) (M ++ L1) := by
 subst hL
 refine ⟨rid, by simp, fun _ _ => rfl, fun _ _ _ _ _ _ e => e, fun j b hj => ?_, fun i v hi => by
  obtain ⟨h1, h2⟩ := fr_all h i v hi
  exact ⟨v, h1, by simpa using h2⟩⟩
 rcases Nat.lt_or_ge j M.length with hlt | hge
 ·rw [List.getElem?_append_left hlt] at hj
  exact .inl ⟨hlt, get_old _ hj, hj⟩
 ·have hj' := hj
  rw [List.getElem?_append_right hge] at hj
  have hjl := (List.getElem?_eq_some_iff.1 hj).1
  refine .inr ⟨(hc b (List.mem_of_getElem? hj)).1, b, ?_, rfl, rfl, rfl, fun k v hk => ⟨v, hk, ?_⟩⟩
  ·show (M ++ (L1 ++ L2))[j]? = _
   rw [List.getElem?_append_right hge, List.getElem?_append_left hjl]; exact hj
  ·have := (hc b (List.mem_of_getElem? hj)).2 v (List.mem_of_getElem? hk)
   simpa using this
end
section
variable {P : Program} {nt : Nat} {ops : Array Oper} {t : Fm} {m : AM} {K : Fm → AM → Prop} {T : Nat} {p : String} {af : Array Edge}
theorem Step.id {o : Oper} (h : Step P nt ops o t m K) : Step P nt ops o t m K := h
def dOk (d : Option Tmp) (n : Nat) : Bool := match d with
 | some d => Nat.blt d n
 | none => true
theorem dOk_of {d : Option Tmp} (h : dOk d nt = true) : ∀ e, d = some e → e < nt := fun e he => by subst he; simpa [dOk] using h
theorem Step.gdT {o : Op} {dd : Option Tmp} {j : Nat} {b q : Bool} (hd : dOk dd nt = true) (hv : gval ops t j = some (.bool q)) (hq : q = b) (h1 : Step P nt ops ⟨dd, o, T, p, af, none⟩ t m K) : Step P nt ops ⟨dd, o, T, p, af, some (j, b)⟩ t m K :=
 .gd (dOk_of hd) hv (fun _ => h1) (fun h => by rw [hq] at h; cases b <;> cases h)
theorem Step.gdF {o : Op} {dd : Option Tmp} {j : Nat} {b q : Bool} (hd : dOk dd nt = true) (hv : gval ops t j = some (.bool q)) (hq : q = !b) (h1 : K (putO t dd undef) m) : Step P nt ops ⟨dd, o, T, p, af, some (j, b)⟩ t m K :=
 .gd (dOk_of hd) hv (fun h => by rw [hq] at h; cases b <;> cases h) (fun _ => h1)
theorem Step.pickT {d : Nat} {c x y : Operand} {q : Bool} {v u : Value} (hc : evo t c = some (.bool q)) (hx : evo t x = some v) (hy : evo t y = some u) (hlt : Nat.blt d nt = true) (hq : q = true) (h1 : K (put t d v) m) : Step P nt ops ⟨some d, .pick c x y, T, p, af, none⟩ t m K :=
 .pick hc hx hy hlt (fun _ => h1) (fun h => by rw [hq] at h; cases h)
theorem Step.pickF {d : Nat} {c x y : Operand} {q : Bool} {v u : Value} (hc : evo t c = some (.bool q)) (hx : evo t x = some v) (hy : evo t y = some u) (hlt : Nat.blt d nt = true) (hq : q = false) (h1 : K (put t d u) m) : Step P nt ops ⟨some d, .pick c x y, T, p, af, none⟩ t m K :=
 .pick hc hx hy hlt (fun h => by rw [hq] at h; cases h) (fun _ => h1)
end
theorem Sl.mk {a o n c : Nat} (h : n ≤ c) : Sl (.slice (some ⟨a, o, none⟩) n c) a o n := .inr (.inl ⟨c, h, rfl⟩)
theorem Sl.nil (a o : Nat) : Sl (.slice none 0 0) a o 0 := .inl ⟨rfl, rfl⟩
def Ints (m : AM) (v : Value) (l : List Int) : Prop := ∃ a o, Sl v a o l.length ∧ a < m.length ∧ ∀ k, k < l.length → Rd m a (o + k) (.int .i64 (l.getD k 0))
def Nats (m : AM) (v : Value) (l : List Nat) : Prop := ∃ a o, Sl v a o l.length ∧ a < m.length ∧ ∀ k, k < l.length → Rd m a (o + k) (.int .i64 ((l.getD k 0 : Nat) : Int))
theorem Ints.old {m : AM} {v : Value} {l : List Int} (L : AM) (h : Ints m v l) : Ints (m ++ L) v l := by
 obtain ⟨a, o, h1, h2, h3⟩ := h
 exact ⟨a, o, h1, by simp; omega, fun k hk => (h3 k hk).old L⟩
theorem Nats.old {m : AM} {v : Value} {l : List Nat} (L : AM) (h : Nats m v l) : Nats (m ++ L) v l := by
 obtain ⟨a, o, h1, h2, h3⟩ := h
 exact ⟨a, o, h1, by simp; omega, fun k hk => (h3 k hk).old L⟩
def RdL (m : AM) (i o : Nat) (c : List Value) : Prop := ∃ b, m[i]? = some (some b) ∧ ∀ (j : Nat) (v : Value), c[j]? = some v → b.cells[o + j]? = some v
theorem RdL.old {M : AM} (L : AM) {a o : Nat} {c : List Value} (h : RdL M a o c) : RdL (M ++ L) a o c := by
 obtain ⟨b, h1, h2⟩ := h
 exact ⟨b, get_old L h1, h2⟩
theorem RdL.at_ {m : AM} {a o : Nat} {c : List Value} (h : RdL m a o c) (j : Nat) {v : Value} (hj : c[j]? = some v) : Rd m a (o + j) v := by
 obtain ⟨b, h1, h2⟩ := h
 exact ⟨b, h1, h2 j v hj⟩
theorem RdL.new {M L : AM} {k : Nat} {b : Blk} {c : List Value} (h : L[k]? = some (some b)) (hb : b.cells = c) : RdL (M ++ L) (M.length + k) 0 c :=
 ⟨b, by rw [get_app]; exact h, fun j v hj => by rw [hb, Nat.zero_add]; exact hj⟩
theorem RdL.nil {m : AM} {i o : Nat} {b : Blk} (h : m[i]? = some (some b)) : RdL m i o [] := ⟨b, h, fun j v hj => by simp at hj⟩
theorem RdL.cons {m : AM} {i o : Nat} {v : Value} {c : List Value} (h : Rd m i o v) (hc : RdL m i (o + 1) c) : RdL m i o (v :: c) := by
 obtain ⟨b, h1, h2⟩ := h
 obtain ⟨b', k1, k2⟩ := hc
 rw [h1] at k1; injection k1 with k1; injection k1 with k1; subst k1
 refine ⟨b, h1, fun j x hj => ?_⟩
 cases j with
 | zero => simp at hj; subst hj; exact h2
 | succ j =>
  have := k2 j x (by simpa using hj)
  rwa [show o + (j + 1) = o + 1 + j by omega]
theorem RdL.one {m : AM} {i o : Nat} {v : Value} (h : Rd m i o v) : RdL m i o [v] := by
 obtain ⟨b, h1, h2⟩ := h
 exact ⟨b, h1, fun j x hj => by
  cases j with
  | zero => simp at hj; subst hj; exact h2
  | succ j => simp at hj⟩
section
variable {P : Program} {nt : Nat} {ops : Array Oper} {t : Fm} {m : AM} {K : Fm → AM → Prop} {d T : Nat} {p : String} {af : Array Edge}
theorem Step.loadL {x : Operand} {ty i o n : Nat} {c : List Value} (hx : evo t x = some (.pointer (some ⟨i, o, none⟩))) (hg : aggB P ty = some true) (hn : szB P ty = some n) (hlt : Nat.blt d nt = true) (h1 : RdL m i o c) (h3 : c.length = n) (hn1 : Nat.blt 0 n = true) (hK : K (put t d (.agg c.toArray)) m) :
  Step P nt ops ⟨some d, .load ty x, T, p, af, none⟩ t m K := by
 obtain ⟨b, k1, k2⟩ := h1
 simp at hn1
 have hlast := k2 (n - 1) c[n - 1] (List.getElem?_eq_getElem (by omega))
 have hlen := (List.getElem?_eq_some_iff.1 hlast).1
 refine .loads hx hg hn hlt k1 ?_ h3 hn1 hK
 apply List.ext_getElem?
 intro j
 by_cases hj : j < n
 ·rw [List.getElem?_take, if_pos hj, List.getElem?_drop, k2 j c[j] (List.getElem?_eq_getElem (by omega)), List.getElem?_eq_getElem (by omega)]
 ·rw [List.getElem?_take, if_neg hj, List.getElem?_eq_none (by omega)]
theorem Step.storeA {x y : Operand} {ty : TypeId} {k n : Nat} {v : Value} {b : Blk} {M L L' : AM} (hx : evo t x = some (.pointer (some ⟨M.length + k, 0, none⟩))) (hy : evo t y = some v) (hb : L[k]? = some (some b)) (hs : b.kind.solid = true) (hz : szB P ty = some n) (hc : v.cells.size = n) (h1 : v.cells.all (·.oneCell') = true) (ho : b.cells.length = n)
  (hL : L.set k (some { b with cells := v.cells.toList }) = L') (hK : K t (M ++ L')) : Step P nt ops ⟨none, .store ty x y, T, p, af, none⟩ t (M ++ L) K := by
 refine .stores hx hy hb hs hz hc h1 (by omega) ?_ hK
 rw [← hL]
 have : splice b.cells 0 v.cells.toList = v.cells.toList := by
  unfold splice
  rw [List.drop_eq_nil_of_le (by simp; omega)]
  simp
 rw [this]
theorem parts_eq {t : Fm} {parts : Array (Nat × Operand)} {ws : List Value} (hv : evL t (parts.toList.map (·.2)) = some ws) : (parts.map fun (i, x) => (i, evD t x)).toList = (parts.toList.map (·.1)).zip ws := by
 obtain ⟨_, h2⟩ := evL_of hv
 rw [← h2, Array.toList_map]
 generalize parts.toList = l
 induction l with
 | nil => rfl
 | cons x l ih => obtain ⟨i, y⟩ := x; simp [ih]
theorem Step.build {X : TypeId} {parts : Array (Nat × Operand)} {ws : List Value} {c : Array Value} (hv : evL t (parts.toList.map (·.2)) = some ws) (hb : abuild P X ((parts.toList.map (·.1)).zip ws) = some (.agg c)) (hlt : Nat.blt d nt = true) (hK : K (put t d (.agg c)) m) :
  Step P nt ops ⟨some d, .build X parts, T, p, af, none⟩ t m K := by
 obtain ⟨h1, _⟩ := evL_of hv
 refine .q rfl rfl hlt (fun x hx => h1 x (by simpa [Op.operands] using hx)) ?_ hK
 simp only [aquiet, parts_eq hv, hb]
theorem Step.buildS {X : TypeId} {len : Nat} {parts : Array (Nat × Operand)} {ws : List Value} {c : List Value} {M L L' : AM} (k : Nat) (hk : L.length = k) (hv : evL t (parts.toList.map (·.2)) = some ws)
  (hb : ∀ (m : AM) (n : Nat), abuildSlice P m n X len ((parts.toList.map (·.1)).zip ws) = some (.slice (some ⟨n, 0, none⟩) len len, m.set n (some { cells := c }))) (hlt : Nat.blt d nt = true) (hL : L ++ [some { cells := c }] = L') (hK : K (put t d (.slice (some ⟨M.length + k, 0, none⟩) len len)) (M ++ L')) :
  Step P nt ops ⟨some d, .buildSlice X len parts, T, p, af, none⟩ t (M ++ L) K := by
 subst hL
 obtain ⟨h1, _⟩ := evL_of hv
 refine .l rfl rfl hlt rfl (fun x hx => h1 x (by simpa [Op.operands] using hx)) (loudN hk rfl (v := .slice (some ⟨M.length + k, 0, none⟩) len len) ?_ hK)
 simp only [aloud, parts_eq hv, hb, set_new_at M L hk]
def gv (a n : Nat) : Value := if n = 0 then .slice none 0 0 else .slice (some ⟨a, 0, none⟩) n n
def gb (c : List Value) (s : Nat) : Option Blk := match c with
 | [] => none
 | x :: l => some { cells := x :: l, kind := .grow, size := s }
theorem gv_pos {a n : Nat} (h : 0 < n) : gv a n = .slice (some ⟨a, 0, none⟩) n n := if_neg (by omega)
theorem gb_pos {c : List Value} {s : Nat} (h : 0 < c.length) : gb c s = some { cells := c, kind := .grow, size := s } := by
 cases c with
 | nil => simp at h
 | cons x l => rfl
theorem gv_sl (a n : Nat) : Sl (gv a n) a 0 n := by
 unfold gv
 split
 ·rename_i h; exact .inl ⟨rfl, h⟩
 ·exact .inr (.inl ⟨n, Nat.le_refl _, rfl⟩)
theorem Step.appG {x y : Operand} {X Y e e' : TypeId} {s by_ : Nat} {z : Array Value} {k q r n xl : Nat} {c new : List Value} {M L L' : AM} (hk : L.length = k) (hx : evo t x = some (gv (M.length + q) n)) (hy : evo t y = some (.slice (some ⟨M.length + r, 0, none⟩) xl xl)) (hE : elemB P X = some (e, s, by_, z)) (hY : P.underlying Y = some (.slice e'))
  (hs : Nat.blt 0 s = true) (hxl : Nat.blt 0 xl = true) (hq : L[q]? = some (gb c s)) (hc : c.length = n * s) (hr : L[r]? = some (some { cells := new })) (hn : new.length = xl * s) (hn1 : new.all (·.oneCell') = true) (hb : (n + xl) * by_ ≤ 1099511627776 ∧ n + xl ≤ 1099511627776) (hlt : Nat.blt d nt = true)
  (hL : L.set q none ++ [some { cells := c ++ new, kind := .grow, size := s }] = L') (hK : K (put t d (.slice (some ⟨M.length + k, 0, none⟩) (n + xl) (n + xl))) (M ++ L')) :
  Step P nt ops ⟨some d, .call ⟨.builtin .append, #[x, y], #[X, Y]⟩, T, p, af, none⟩ t (M ++ L) K := by
 subst hL
 simp at hs hxl
 refine .l rfl rfl hlt rfl (by simp [Op.operands, Call.operands, hx, hy]) (loudN hk rfl (v := .slice (some ⟨M.length + k, 0, none⟩) (n + xl) (n + xl)) ?_ hK)
 have hrl : r < L.length := (List.getElem?_eq_some_iff.1 hr).1
 have hql : q < L.length := (List.getElem?_eq_some_iff.1 hq).1
 have hcell : acells ((M ++ L) ++ [none]) s xl (.slice (some ⟨M.length + r, 0, none⟩) xl xl) = some new := by
  have hg : ((M ++ L) ++ [none])[M.length + r]? = some (some { cells := new }) := by rw [List.append_assoc, get_app, List.getElem?_append_left hrl, hr]
  simp only [acells, hg]
  rw [if_neg (by omega), if_pos ⟨Nat.le_refl _, by simp [hn]⟩]
  simp [← hn]
 simp only [aloud, evD_of hx, evD_of hy, aappend, hE, hY, aSliceLen, hcell]
 rw [if_neg (by simp [hn1]; omega)]
 by_cases hn0 : n = 0
 ·subst hn0
  have hc0 : c = [] := List.eq_nil_of_length_eq_zero (by omega)
  subst hc0
  have hset : L.set q none = L := by
   apply List.ext_getElem?
   intro j
   by_cases e : q = j
   ·subst e; rw [List.getElem?_set_self hql, hq]; simp [gb]
   ·rw [List.getElem?_set_ne e]
  simp only [gv, if_true]
  rw [if_neg (by omega), if_pos ⟨by simpa using hb.1, by simpa using hb.2⟩, set_new_at M L hk, hset]
  simp
 ·have hc1 : 0 < c.length := by rw [hc]; exact Nat.mul_pos (by omega) hs
  rw [gb_pos hc1] at hq
  rw [gv_pos (by omega)]
  simp only
  have hg : ((M ++ L) ++ [none])[M.length + q]? = some (some { cells := c, kind := .grow, size := s }) := by rw [List.append_assoc, get_app, List.getElem?_append_left hql, hq]
  rw [if_neg (by omega)]
  simp only [hg]
  rw [if_neg (by omega), if_pos ⟨hb.1, hb.2, Nat.le_refl _⟩, if_pos ⟨by simp [hc], trivial⟩]
  simp only [List.drop_zero, Option.some.injEq, Prod.mk.injEq, true_and]
  have h1 : ((M ++ L) ++ [none]).set (M.length + q) none = (M ++ L.set q none) ++ [none] := by
   rw [List.append_assoc, set_app, List.set_append_left _ _ hql, List.append_assoc]
  rw [h1, List.take_of_length_le (by omega)]
  exact set_new_at M (L.set q none) (k := k) (by simpa using hk) _ none
def Ret (r : Value) (m : AM) : Value → AM → Prop := fun v m' => r = v ∧ m = m'
theorem Step.callR {args : Array Operand} {tys : Array TypeId} {g : FuncId} {vs : List Value} {fn : Func} {b : Code} {r : Value} (hP : Fit P) (ha : evL t args.toList = some vs) (hf : P.funcs[g]? = some fn) (hb : fn.body = some b)
  (hlt : Nat.blt d nt = true) (h : ACall P g vs.toArray m (Ret r m)) (hK : K (put t d r) m) : Step P nt ops ⟨some d, .call ⟨.value (.func g), args, tys⟩, T, p, af, none⟩ t m K :=
 .callF hP ha hf hb hlt h (by rintro v m' ⟨rfl, rfl⟩; exact hK)
theorem Step.eqNil {x y : Operand} {X Y : TypeId} {q : Addr} {n c : Nat} {e : TypeId} (hx : evo t x = some (.slice (some q) n c)) (hy : evo t y = some (.slice none 0 0)) (hX : P.underlying X = some (.slice e)) (hlt : Nat.blt d nt = true) (hK : K (put t d (.bool false)) m) : Step P nt ops ⟨some d, .binOp .eql X x y Y, T, p, af, none⟩ t m K :=
 .q rfl rfl hlt (by simp [Op.operands, hx, hy]) (by simp [aquiet, evD_of hx, evD_of hy, aint, anil, hX, bEq]) hK
end
theorem Gc.mv {t : Fm} {M L L1 : AM} {p q : Nat} {l : List (Nat × Value)} (hp : p < L1.length) (hq : L1.length ≤ q) (hpq : L1[p]? = L[q]?) (hrest : ∀ j b, j ≠ p → L1[j]? = some (some b) → L[j]? = some (some b))
  (hc : ∀ b, some b ∈ L1 → isMapK b.kind = false ∧ ∀ v ∈ b.cells, Ren (fun i => if i = M.length + p then M.length + q else i) (M.length + L1.length) v v)
  (h : All (fun i v => ∃ v', t i = some v' ∧ Ren (fun i => if i = M.length + p then M.length + q else i) (M.length + L1.length) v v') l) : Gc M t (M ++ L) (fr l) (M ++ L1) := by
 refine ⟨fun i => if i = M.length + p then M.length + q else i, by simp, fun j hj => if_neg (by omega), fun i j b c hi hj e => ?_, fun j b hj => ?_, fun i v hi => by
  obtain ⟨v', h1, h2⟩ := fr_all h i v hi
  exact ⟨v', h1, by simpa using h2⟩⟩
 ·have hi' := (List.getElem?_eq_some_iff.1 hi).1
  have hj' := (List.getElem?_eq_some_iff.1 hj).1
  simp at hi' hj'
  simp only at e
  split at e <;> split at e <;> omega
 ·rcases Nat.lt_or_ge j M.length with hlt | hge
  ·rw [List.getElem?_append_left hlt] at hj
   exact .inl ⟨hlt, get_old _ hj, hj⟩
  ·have hj0 := hj
   rw [List.getElem?_append_right hge] at hj
   have hmem := List.mem_of_getElem? hj
   refine .inr ⟨(hc b hmem).1, b, ?_, rfl, rfl, rfl, fun k v hk => ⟨v, hk, ?_⟩⟩
   ·by_cases e : j = M.length + p
    ·subst e
     simp only [if_true]
     rw [Nat.add_sub_cancel_left] at hj
     rw [get_app, ← hpq]; exact hj
    ·simp only [if_neg e]
     rw [List.getElem?_append_right hge]
     exact hrest _ b (by omega) hj
   ·have := (hc b hmem).2 v (List.mem_of_getElem? hk)
    simpa using this
def Back (M : AM) (t : Fm) (m : AM) (l : List (Nat × Value)) (L : AM) : Prop := (m = M ++ L ∧ All (fun i v => t i = some v) l) ∨ Gc M t m (fr l) (M ++ L)
section
variable {P : Program} {nt : Nat} {M L : AM} {t : Fm} {Q : AEx → Fm → AM → Prop} {ops : Array Oper} {K : Fm → AM → Prop} {d T : Nat} {p : String} {af : Array Edge}
theorem Back.ok {base : Nat} {R R0 : Pl} {m : AM} {w w0 : World} {u : Array Value} {l : List (Nat × Value)} (h : Back M t m l L) (h0 : MRep base R0 M w0) (hp : Post base M m R0 R w0 w) (ht : FR R nt t u) : ∃ R1, Post base M (M ++ L) R0 R1 w0 w ∧ FR R1 nt (fr l) u := by
 rcases h with ⟨rfl, h⟩ | h
 ·exact ⟨R, hp, ht.weak (fr_all h)⟩
 ·exact h.ok h0 hp ht
theorem AW.loopT {c : Code} (I : Nat → List (Nat × Value) → AM → Prop) (h0 : ∃ k l L', Back M t (M ++ L) l L' ∧ I k l L')
  (round : ∀ k l L, I k l L → AW P nt M c (fr l) (M ++ L) (Then (fun t' m' => ∃ k' l' L', k' < k ∧ Back M t' m' l' L' ∧ I k' l' L') Q)) : AW P nt M (.loop c) t (M ++ L) Q := by
 intro base R0 w0 R ac w hb hm0 hp ht
 let J : Nat → Act → World → Prop := fun k a w => ∃ l L R, I k l L ∧ Post base M (M ++ L) R0 R w0 w ∧ FR R nt (fr l) a.tmps ∧ a.defers = ac.defers
 have hJ0 : ∃ k, J k ac w := by
  obtain ⟨k, l, L', h1, h2⟩ := h0
  obtain ⟨R1, k1, k2⟩ := h1.ok hm0 hp ht
  exact ⟨k, l, L', R1, h2, k1, k2, rfl⟩
 open Classical in
 let μ : Act → World → Nat := fun a w => if h : ∃ k, J k a w then Classical.choose (least _ h) else 0
 have hμ : ∀ a w (h : ∃ k, J k a w), J (μ a w) a w ∧ ∀ k, J k a w → μ a w ≤ k := fun a w h => by
  have hs := Classical.choose_spec (least _ h)
  have e : μ a w = Classical.choose (least _ h) := dif_pos h
  rw [e]
  exact ⟨hs.1, fun k hk => Nat.le_of_not_lt fun hlt => hs.2 k hlt hk⟩
 refine wp_loop (fun a w => ∃ k, J k a w) μ hJ0 fun a w hJ => ?_
 obtain ⟨⟨l2, L2, R2, q1, q2, q3, q4⟩, _⟩ := hμ a w hJ
 refine wp_mono (round _ _ _ q1 base R0 w0 R2 a w hb hm0 q2 q3) ?_
 rintro ex a' w' ⟨e, t', m', R', rfl, h2, h3, h4, h5⟩
 cases e with
 | normal =>
  obtain ⟨k', l', L', r1, r2, r3⟩ := h5
  obtain ⟨R1, s1, s2⟩ := r2.ok hm0 h3 h4
  have hJ' : J k' a' w' := ⟨l', L', R1, r3, s1, s2, h2.trans q4⟩
  exact ⟨⟨k', hJ'⟩, Nat.lt_of_le_of_lt ((hμ a' w' ⟨k', hJ'⟩).2 k' hJ') r1⟩
 | exit i => exact ⟨.exit i, t', m', R', rfl, h2.trans q4, h3, h4, h5⟩
 | ret => exact ⟨.ret, t', m', R', rfl, h2.trans q4, h3, h4, h5⟩
theorem ACall.start {f : FuncId} {fn : Func} {c : Code} {args : Array Value} {Q : Value → AM → Prop} (hf : P.funcs[f]? = some fn) (hb : fn.body = some c) (hsz : Nat.ble args.size fn.ntmps = true)
  (h : AW P fn.ntmps M c (argF args) (M ++ []) (Ends P fn Q)) : ACall P f args M Q :=
 .intro hf hb (Nat.le_of_ble_eq_true hsz) (by rw [List.append_nil] at h; exact h)
def CellsOk (L : AM) : Prop := ∀ b, some b ∈ L → isMapK b.kind = false ∧ ∀ v ∈ b.cells, g0 v = true
theorem CellsOk.nil : CellsOk [] := fun b h => by simp at h
theorem CellsOk.none {L : AM} (h : CellsOk L) : CellsOk (none :: L) := fun b hb => h b (by simpa using hb)
theorem CellsOk.cons {b : Blk} {L : AM} (hb : ∀ v ∈ b.cells, g0 v = true) (h : CellsOk L) (hk : isMapK b.kind = false := by rfl) : CellsOk (some b :: L) := fun c hc => by
 rcases List.mem_cons.1 hc with e | e
 ·injection e with e; subst e; exact ⟨hk, hb⟩
 ·exact h c e
theorem Back.trim {m : AM} {l : List (Nat × Value)} {L1 L2 L3 : AM} (hm : m = M ++ L3) (hL : L3 = L1 ++ L2) (hc : CellsOk L1) (h : All (fun i v => t i = some v ∧ Ren rid (M.length + L1.length) v v) l) : Back M t m l L1 := by
 subst hm
 exact .inr (Gc.trim hL (fun b hb => ⟨(hc b hb).1, fun v hv => .of_g0 ((hc b hb).2 v hv)⟩) h)
theorem Back.mv {m : AM} {l : List (Nat × Value)} {L1 L3 : AM} (p q : Nat) (hm : m = M ++ L3) (hp : Nat.blt p L1.length = true) (hq : Nat.ble L1.length q = true) (hpq : L1[p]? = L3[q]?) (hrest : ∀ j b, j ≠ p → L1[j]? = some (some b) → L3[j]? = some (some b)) (hc : CellsOk L1)
  (h : All (fun i v => ∃ v', t i = some v' ∧ Ren (fun i => if i = M.length + p then M.length + q else i) (M.length + L1.length) v v') l) : Back M t m l L1 := by
 subst hm
 exact .inr (Gc.mv (by simpa using hp) (Nat.le_of_ble_eq_true hq) hpq hrest (fun b hb => ⟨(hc b hb).1, fun v hv => .of_g0 ((hc b hb).2 v hv)⟩) h)
theorem Ren.slice_mv {N p q : Nat} {l c o n : Nat} (h : N + p < n) : Ren (fun i => if i = N + p then N + q else i) n (.slice (some ⟨N + p, o, none⟩) l c) (.slice (some ⟨N + q, o, none⟩) l c) := by
 have := Ren.slice (ρ := fun i => if i = N + p then N + q else i) (n := n) (N + p) o l c h
 simpa using this
theorem AW.retD {l : List (Nat × Value)} (h : All (fun i v => t i = some v ∧ Ren rid M.length v v) l) (hQ : Q .ret (fr l) M) : AW P nt M .ret t (M ++ L) Q := .gc (Gc.drop h) (.ret hQ)
theorem AW.retT {l : List (Nat × Value)} {L1 L2 : AM} (hL : L = L1 ++ L2) (hc : CellsOk L1) (h : All (fun i v => t i = some v ∧ Ren rid (M.length + L1.length) v v) l) (hQ : Q .ret (fr l) (M ++ L1)) : AW P nt M .ret t (M ++ L) Q :=
 .gc (Gc.trim hL (fun b hb => ⟨(hc b hb).1, fun v hv => .of_g0 ((hc b hb).2 v hv)⟩) h) (.ret hQ)
theorem AW.retB {l : List (Nat × Value)} {L1 : AM} (hB : Back M t (M ++ L) l L1) (hQ : Q .ret (fr l) (M ++ L1)) : AW P nt M .ret t (M ++ L) Q := by
 intro base R0 w0 R a w hb h0 hp ht
 obtain ⟨R1, k1, k2⟩ := hB.ok h0 hp ht
 exact AW.ret hQ base R0 w0 R1 a w hb h0 k1 k2
theorem Step.ix1z {x y : Operand} {a n k X : Nat} {kk : IntKind} {v : Value} {m : AM} (hx : evo t x = some v) (hs : Sl v a 0 n) (hy : evo t y = some (.int kk ((k : Nat) : Int))) (he : elB P X = some 1) (hlt : Nat.blt d nt = true) (hk : k < n) (hK : K (put t d (.pointer (some ⟨a, k, none⟩))) m) : Step P nt ops ⟨some d, .indexAddr X x y, T, p, af, none⟩ t m K :=
 .ix1 hx hs hy he hlt hk (by simpa using hK)
theorem Step.ixz {x y : Operand} {s a n k X : Nat} {kk : IntKind} {v : Value} {m : AM} (hx : evo t x = some v) (hs : Sl v a 0 n) (hy : evo t y = some (.int kk ((k : Nat) : Int))) (he : elB P X = some s) (hlt : Nat.blt d nt = true) (hk : k < n) (hK : K (put t d (.pointer (some ⟨a, k * s, none⟩))) m) : Step P nt ops ⟨some d, .indexAddr X x y, T, p, af, none⟩ t m K :=
 .ix hx hs hy he hlt hk (by simpa using hK)
end
def planB (P : Program) (ops : Array Oper) : Bool := match plan P ops ops.size (Array.replicate ops.size false) with
 | some q => q == List.range ops.size
 | none => false
def AWo (P : Program) (nt : Nat) (ops : Array Oper) : List Oper → Fm → AM → (Fm → AM → Prop) → Prop
 | [], t, m, Q => Q t m
 | o :: rest, t, m, Q => Step P nt ops o t m (fun t m => AWo P nt ops rest t m Q)
section
variable {P : Program} {nt : Nat} {ops : Array Oper} {t : Fm} {m m0 : AM}
theorem AWo.nil {Q : Fm → AM → Prop} (h : Q t m) : AWo P nt ops [] t m Q := h
theorem AWo.cons {o : Oper} {rest : List Oper} {Q : Fm → AM → Prop} (h : Step P nt ops o t m (fun t m => AWo P nt ops rest t m Q)) : AWo P nt ops (o :: rest) t m Q := h
theorem AWo.to {Q : Fm → AM → Prop} : ∀ (l : List Oper) (k : Nat) (t : Fm) (m : AM), (∀ j, l[j]? = ops[k + j]?) → AWo P nt ops l t m Q → AWi P nt ops (List.range' k l.length) t m Q
 | [], _, _, _, _, h => h
 | o :: rest, k, t, m, hl, h => by
  rw [List.length_cons, List.range'_succ]
  refine ⟨o, by have := hl 0; simpa using this.symm, ?_⟩
  exact Step.mono h fun v m' hk => AWo.to rest (k + 1) _ _ (fun j => by have := hl (j + 1); simpa [Nat.add_assoc, Nat.add_comm 1 j] using this) hk
theorem AW.regL {id : Nat} {l : List Oper} {Q : AEx → Fm → AM → Prop} (h : AWo P nt l.toArray l t m (fun t m => Q .normal t m)) : AW P nt m0 (.region id l.toArray false) t m Q :=
 .reg rfl (by
  have := AWo.to l 0 t m (by simp) h
  simpa [List.range_eq_range'] using this)
theorem AW.drawL (hP : Fit P) {id : Nat} {l : List Oper} {Q : AEx → Fm → AM → Prop} (hl : planB P l.toArray = true) (h : AWo P nt l.toArray l t m (fun t m => Q .normal t m)) : AW P nt m0 (.region id l.toArray true) t m Q := by
 unfold planB at hl
 split at hl
 ·rename_i q hq
  have e := eq_of_beq hl
  subst e
  exact .draw hP hq (by
   have := AWo.to l 0 t m (by simp) h
   simpa [List.range_eq_range'] using this)
 ·cases hl
end
def iv (l : List Int) : List Value := l.map (.int .i64)
def bv (l : List Bool) : List Value := l.map .bool
theorem iv_get {l : List Int} {k : Nat} (h : k < l.length) : (iv l)[k]? = some (.int .i64 (l.getD k 0)) := by simp [iv, h]
theorem iv_set (l : List Int) (k : Nat) (x : Int) : (iv l).set k (.int .i64 x) = iv (l.set k x) := by simp [iv, List.map_set]
theorem bv_set (l : List Bool) (k : Nat) (x : Bool) : (bv l).set k (.bool x) = bv (l.set k x) := by simp [bv, List.map_set]
theorem iv_rep (n : Nat) : List.replicate n (.int .i64 0) = iv (List.replicate n 0) := by simp [iv]
theorem bv_rep (n : Nat) : List.replicate n (.bool false) = bv (List.replicate n false) := by simp [bv]
theorem iv_len (l : List Int) : (iv l).length = l.length := by simp [iv]
theorem g0_iv (l : List Int) : ∀ v ∈ iv l, g0 v = true := fun v h => by
 obtain ⟨x, _, rfl⟩ := List.mem_map.1 h; rfl
theorem ints_at {M : AM} {l : List Int} {b : Blk} {a : Nat} (h : M[a]? = some (some b)) (hb : b.cells = iv l) (n : Nat) (hn : n = l.length) : Ints M (.slice (some ⟨a, 0, none⟩) n n) l := by
 subst hn
 exact ⟨a, 0, Sl.mk (Nat.le_refl _), (List.getElem?_eq_some_iff.1 h).1, fun j hj => ⟨b, h, by rw [hb, Nat.zero_add]; exact iv_get hj⟩⟩
section
variable {P : Program} {nt : Nat} {ops : Array Oper} {t : Fm} {m : AM} {K : Fm → AM → Prop} {d T : Nat} {p : String} {af : Array Edge}
theorem still_bind {α β : Type} (s : Sem α) (f : α → Sem β) : Sim.still P (s.bind f) = match Sim.still P s with
 | some a => Sim.still P (f a)
 | none => none := by
 induction s with
 | pure a => rfl
 | program k ih => simp only [Sem.bind, Sim.still]; exact ih _
 | _ => rfl
end
theorem Back.pad {M L : AM} {t : Fm} {l : List (Nat × Value)} (h : All (fun i v => t i = some v ∧ Ren rid (M.length + (L ++ [none]).length) v v) l) (hc : CellsOk L) : Back M t (M ++ L) l (L ++ [none]) := by
 refine .inr ⟨rid, by simp, fun _ _ => rfl, fun _ _ _ _ _ _ e => e, fun j b hj => ?_, fun i v hi => by
  obtain ⟨h1, h2⟩ := fr_all h i v hi
  exact ⟨v, h1, by simpa using h2⟩⟩
 have hj2 : (M ++ L)[j]? = some (some b) := by
  rw [← List.append_assoc] at hj
  rcases Nat.lt_or_ge j (M ++ L).length with hlt | hge
  ·rwa [List.getElem?_append_left hlt] at hj
  ·rw [List.getElem?_append_right hge] at hj
   cases q : j - (M ++ L).length with
   | zero => rw [q] at hj; simp at hj
   | succ q' => rw [q] at hj; simp at hj
 rcases Nat.lt_or_ge j M.length with hlt | hge
 ·refine .inl ⟨hlt, hj2, ?_⟩
  rwa [List.getElem?_append_left hlt] at hj2
 ·have hj3 := hj2
  rw [List.getElem?_append_right hge] at hj3
  exact .inr ⟨(hc b (List.mem_of_getElem? hj3)).1, b, hj2, rfl, rfl, rfl, fun k v hk => ⟨v, hk, .of_g0 ((hc b (List.mem_of_getElem? hj3)).2 v (List.mem_of_getElem? hk))⟩⟩
theorem CellsOk.gb {c : List Value} {s : Nat} {L : AM} (hb : ∀ v ∈ c, g0 v = true) (h : CellsOk L) : CellsOk (gb c s :: L) := by
 cases c with
 | nil => exact .none h
 | cons x l => exact .cons hb h
theorem Ren.of_gv {N a n : Nat} (h : a < N) : Ren rid N (gv a n) (gv a n) := by
 unfold Abs.gv
 split
 ·exact .sliceNil
 ·exact .slice _ _ _ _ h
def NewG (c : List Value) (s n : Nat) (m : AM) : Value → AM → Prop := fun v m' => v = gv (m.length + 0) n ∧ m' = m ++ [gb c s]
theorem Step.callG {P : Program} {nt : Nat} {ops : Array Oper} {t : Fm} {K : Fm → AM → Prop} {d T : Nat} {p : String} {af : Array Edge} {args : Array Operand} {tys : Array TypeId} {g : FuncId} {vs : List Value} {fn : Func} {b : Code} {n k s : Nat} {c : List Value} {M L L' : AM} (hP : Fit P) (hk : L.length = k) (ha : evL t args.toList = some vs) (hf : P.funcs[g]? = some fn) (hb : fn.body = some b)
  (hlt : Nat.blt d nt = true) (h : ACall P g vs.toArray (M ++ L) (NewG c s n (M ++ L))) (hL : L ++ [gb c s] = L') (hK : K (put t d (gv (M.length + k) n)) (M ++ L')) : Step P nt ops ⟨some d, .call ⟨.value (.func g), args, tys⟩, T, p, af, none⟩ t (M ++ L) K :=
 .callF hP ha hf hb hlt h (by
  rintro v m' ⟨rfl, rfl⟩
  subst hL
  rw [List.length_append, hk, List.append_assoc]
  exact hK)
section
variable {P : Program} {nt : Nat} {ops : Array Oper} {t : Fm} {m : AM} {K : Fm → AM → Prop} {d T : Nat} {p : String} {af : Array Edge}
theorem still_und {X : TypeId} {u : TypeDesc} (hX : P.underlying X = some u) : Sim.still P (underlying X) = some u := by
 unfold underlying
 show Sim.still P (Sem.bind program _) = _
 rw [still_bind]
 simp [program, Sim.still, hX, pure]
end
end Go.Proofs.YtedbjmgchfgabaaDoor.Abs
