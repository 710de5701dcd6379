/- Proved here: what the proof of TopApart rests on, part 3 of 4. Conditions: those that each theorem names. -/
import Derived.Test.YtedbjmgchfgabaaDoorTopApartK2
namespace Go.Proofs.YtedbjmgchfgabaaDoor.Abs
set_option linter.unusedSimpArgs false
set_option linter.unusedVariables false
open Go.RowKit
open Go.Proofs.YtedbjmgchfgabaaDoor.Sim
theorem fr_get : ∀ {l : List (Nat × Value)} {i : Nat} {v : Value}, fr l i = some v → (i, v) ∈ l
 | [], _, _, h => by cases h
 | (d, x) :: l, i, v, h => by
  unfold fr at h
  by_cases e : i = d
  ·subst e
   rw [put_same] at h
   injection h with h
   subst h
   exact List.mem_cons_self
  ·rw [put_ne _ _ e] at h
   exact List.mem_cons_of_mem _ (fr_get h)
theorem fr_none : ∀ {l : List (Nat × Value)} {i : Nat}, fr l i = none → ∀ e ∈ l, e.1 ≠ i
 | [], _, _, e, he => by cases he
 | (d, x) :: l, i, h, e, he => by
  unfold fr at h
  by_cases e' : i = d
  ·subst e'
   rw [put_same] at h
   cases h
  ·rw [put_ne _ _ e'] at h
   rcases List.mem_cons.1 he with rfl | he
   ·exact fun q => e' q.symm
   ·exact fr_none h e he
theorem fr_app : ∀ (a b : List (Nat × Value)) (i : Nat), fr (a ++ b) i = match fr a i with | some v => some v | none => fr b i
 | [], _, _ => rfl
 | (d, x) :: a, b, i => by
  rw [List.cons_append]
  show put (fr (a ++ b)) d x i = match put (fr a) d x i with | some v => some v | none => fr b i
  by_cases e : i = d
  ·subst e; rw [put_same, put_same]
  ·rw [put_ne _ _ e, put_ne _ _ e]; exact fr_app a b i
theorem all_mem {t : Fm} : ∀ {bs : List (Nat × Value)}, All (fun i v => t i = some v) bs → ∀ e ∈ bs, t e.1 = some e.2
 | [], _, e, he => by cases he
 | (x1, x2) :: bs, h, e, he => by
  rcases List.mem_cons.1 he with rfl | he
  ·exact h.1
  ·exact all_mem h.2 e he
theorem Step.weakK {P : Program} {nt : Nat} {ops : Array Oper} {o : Oper} {t1 t : Fm} {m : AM} {K K' : Fm → AM → Prop} (hs : ∀ i v, t1 i = some v → t i = some v) (hk : ∀ v m', K (putO t1 o.dst v) m' → K' (putO t o.dst v) m')
  (h : Step P nt ops o t1 m K) : Step P nt ops o t m K' := by
 obtain ⟨h1, h2⟩ := h
 have hkn : ∀ ev, Kn t1 o ev → Kn t o ev := fun ev k1 x hx => by
  have := k1 x hx
  cases x with
  | tmp i => exact hs _ _ this
  | const c => exact this
  | func f => exact this
  | global g => exact this
 refine ⟨h1, ?_⟩
 cases hg : o.guard with
 | none =>
  rw [hg] at h2
  simp only at h2 ⊢
  obtain ⟨ev, k1, k2⟩ := h2
  exact ⟨ev, hkn ev k1, k2.mono fun v' m' => hk v' m'⟩
 | some jb =>
  obtain ⟨j, b⟩ := jb
  rw [hg] at h2
  simp only at h2 ⊢
  obtain ⟨g, k1, k2⟩ := h2
  refine ⟨g, ?_, ?_⟩
  ·unfold gval at k1 ⊢
   split at k1
   ·exact hs _ _ k1
   ·cases k1
  ·split
   ·rename_i hw
    rw [if_pos hw] at k2
    obtain ⟨ev, q1, q2⟩ := k2
    exact ⟨ev, hkn ev q1, q2.mono fun v' m' => hk v' m'⟩
   ·rename_i hw
    rw [if_neg hw] at k2
    exact hk _ _ k2
theorem Step.weakF {P : Program} {nt : Nat} {ops : Array Oper} {o : Oper} {t1 t : Fm} {m : AM} {d : Nat} {v : Value} (hs : ∀ i v, t1 i = some v → t i = some v) (hd : o.dst = some d)
  (h : Step P nt ops o t1 m (fun t' m' => t' d = some v ∧ m' = m)) : Step P nt ops o t m (fun t' m' => t' = put t d v ∧ m' = m) :=
 h.weakK hs fun x m' hk => by
  rw [hd] at hk ⊢
  simp only [putO] at hk ⊢
  rw [put_same] at hk
  obtain ⟨e, e2⟩ := hk
  injection e with e
  subst e
  exact ⟨rfl, e2⟩
def depL (acc : List (Nat × Value)) (D : List Nat) : List (Nat × Value) := D.map fun j => acc.getD j (0, undef)
def AWf (P : Program) (nt : Nat) (m : AM) (ops : Array Oper) (bs : List (Nat × Value)) : List Oper → List (List Nat) → List (Nat × Value) → (List (Nat × Value) → Prop) → Prop
 | [], _, acc, Q => Q acc
 | o :: rest, D, acc, Q => ∃ d v, o.dst = some d ∧ Step P nt ops o (fr (depL acc (D.headD []) ++ bs)) m (fun t' m' => t' d = some v ∧ m' = m) ∧ AWf P nt m ops bs rest D.tail ((d, v) :: acc) Q
section
variable {P : Program} {nt : Nat} {t : Fm} {m m0 : AM} {l : List Oper} {bs : List (Nat × Value)}
theorem AWf.cons {ops : Array Oper} {o : Oper} {rest : List Oper} {dd : List Nat} {D : List (List Nat)} {acc : List (Nat × Value)} {Q : List (Nat × Value) → Prop} {d : Nat} {v : Value} (hd : o.dst = some d) (h : Step P nt ops o (fr (depL acc dd ++ bs)) m (fun t' m' => t' d = some v ∧ m' = m)) (hr : AWf P nt m ops bs rest D ((d, v) :: acc) Q) :
  AWf P nt m ops bs (o :: rest) (dd :: D) acc Q := ⟨d, v, hd, h, hr⟩
theorem AWf.nil {ops : Array Oper} {D : List (List Nat)} {acc : List (Nat × Value)} {Q : List (Nat × Value) → Prop} (h : Q acc) : AWf P nt m ops bs [] D acc Q := h
theorem AWf.get {ops : Array Oper} : ∀ {rest : List Oper} {D : List (List Nat)} {acc : List (Nat × Value)} {Q : List (Nat × Value) → Prop}, AWf P nt m ops bs rest D acc Q → ∃ a1 : List (Nat × Value), a1.length = rest.length ∧ Q (a1.reverse ++ acc) ∧ ∀ i o, rest[i]? = some o → ∃ d v, a1[i]? = some (d, v) ∧ o.dst = some d ∧ Step P nt ops o (fr (depL ((a1.take i).reverse ++ acc) (D.getD i []) ++ bs)) m (fun t' m' => t' d = some v ∧ m' = m)
 | [], _, acc, Q, h => ⟨[], rfl, h, fun i o ho => by simp at ho⟩
 | o :: rest, D, acc, Q, h => by
  obtain ⟨d, v, hd, h1, h2⟩ := h
  obtain ⟨a1, g1, g2, g3⟩ := AWf.get h2
  refine ⟨(d, v) :: a1, by simp [g1], by rw [List.reverse_cons, List.append_assoc]; exact g2, fun i o' ho => ?_⟩
  cases i with
  | zero =>
   simp only [List.getElem?_cons_zero, Option.some.injEq] at ho
   subst ho
   refine ⟨d, v, rfl, hd, ?_⟩
   rw [List.take_zero, List.reverse_nil, List.nil_append]
   cases D <;> exact h1
  | succ i =>
   simp only [List.getElem?_cons_succ] at ho ⊢
   obtain ⟨d', v', k1, k2, k3⟩ := g3 i o' ho
   refine ⟨d', v', k1, k2, ?_⟩
   rw [List.take_succ_cons, List.reverse_cons, List.append_assoc]
   have : D.tail.getD i [] = D.getD (i + 1) [] := by cases D <;> simp
   rw [this] at k3
   exact k3
def backL (l : List Oper) : List (List Nat) := (List.range l.length).map fun i => match l[i]? with
 | some o => (depsO o).map fun j => i - 1 - j
 | none => []
def flatB (l : List Oper) (ks : List Nat) (D : List (List Nat)) : Bool :=
 decide (D = backL l) && (Nat.blt 0 l.length && (backB l && ((l.map (·.dst)).Nodup && (((List.range (l.length - 1)).all fun i => (List.range l.length).any fun j => Nat.blt i j && match l[j]? with | some o => (depsO o).contains i | none => false) &&
  (ks.all fun k => (l.dropLast).all fun o => o.dst != some k)))))
theorem AW.flat (hP : Fit P) {id : Nat} {Q : AEx → Fm → AM → Prop} (bs l1 : List (Nat × Value)) (ks : List Nat) (D : List (List Nat)) (hbs : All (fun i v => t i = some v) bs) (hks : bs.map (·.1) = ks) (hb : flatB l ks D = true)
  (h : AWf P nt m l.toArray bs l D [] (fun acc => All (fun i v => fr (acc ++ bs) i = some v) l1)) (h2 : ∀ t', (∀ i v, fr l1 i = some v → t' i = some v) → Q .normal t' m) : AW P nt m0 (.region id l.toArray true) t m Q := by
 subst hks
 simp only [flatB, Bool.and_eq_true] at hb
 obtain ⟨bD, b0, b1, b3, b4, b5⟩ := hb
 have hn : 0 < l.length := by simpa using b0
 have eD : D = backL l := of_decide_eq_true bD
 obtain ⟨acc, a1, a2, a3⟩ := AWf.get h
 rw [List.append_nil] at a2
 have a3' : ∀ i o, l[i]? = some o → ∃ d v, acc[i]? = some (d, v) ∧ o.dst = some d ∧ Step P nt l.toArray o (fr ((depsO o).map (fun j => (acc.take i).reverse.getD (i - 1 - j) (0, undef)) ++ bs)) m (fun t' m' => t' d = some v ∧ m' = m) := fun i o hi => by
  obtain ⟨d, v, k1, k2, k3⟩ := a3 i o hi
  refine ⟨d, v, k1, k2, ?_⟩
  have hil := (List.getElem?_eq_some_iff.1 hi).1
  have : D.getD i [] = (depsO o).map fun j => i - 1 - j := by
   rw [eD]
   have ho : l[i] = o := by rw [List.getElem?_eq_getElem hil] at hi; injection hi
   simp [backL, hil, ho]
  rw [this, List.append_nil] at k3
  unfold depL at k3
  rw [List.map_map] at k3
  exact k3
 have hnd : (l.map (·.dst)).Nodup := by simpa using b3
 have hdiff : ∀ (i j : Nat) (o o' : Oper), l[i]? = some o → l[j]? = some o' → i ≠ j → o.dst ≠ o'.dst := fun i j o o' hi hj hij e => by
  have hi' := (List.getElem?_eq_some_iff.1 hi).1
  have hj' := (List.getElem?_eq_some_iff.1 hj).1
  have := (List.getElem_inj (h₀ := by simpa using hi') (h₁ := by simpa using hj') hnd).1 (by
   simp only [List.getElem_map]
   have e1 : l[i] = o := by rw [List.getElem?_eq_getElem hi'] at hi; injection hi
   have e2 : l[j] = o' := by rw [List.getElem?_eq_getElem hj'] at hj; injection hj
   rw [e1, e2, e])
  exact hij this
 have hall : ∀ (L : Nat → Bool), (∀ i o, l[i]? = some o → L i = true → ∀ j ∈ depsO o, L j = true) → L (l.length - 1) = true → ∀ i, i < l.length → L i = true := by
  intro L hc hl
  suffices H : ∀ k i, i < l.length → l.length - 1 - i ≤ k → L i = true from fun i hi => H _ i hi (Nat.le_refl _)
  intro k
  induction k with
  | zero => intro i hi hk; rw [show i = l.length - 1 by omega]; exact hl
  | succ k ih =>
   intro i hi hk
   by_cases e : i = l.length - 1
   ·rw [e]; exact hl
   ·have := List.all_eq_true.1 b4 i (List.mem_range.2 (by omega))
    obtain ⟨j, hj1, hj2⟩ := List.any_eq_true.1 this
    simp only [Bool.and_eq_true] at hj2
    obtain ⟨hj2, hj3⟩ := hj2
    have hij : i < j := by simpa using hj2
    have hjl := List.mem_range.1 hj1
    rw [List.getElem?_eq_getElem hjl] at hj3
    simp only at hj3
    have hLj := ih j hjl (by omega)
    exact hc j _ (List.getElem?_eq_getElem hjl) hLj i (by simpa using hj3)
 obtain ⟨ol, hol⟩ : ∃ o, l[l.length - 1]? = some o := ⟨_, List.getElem?_eq_getElem (by omega)⟩
 obtain ⟨dl, vl, hdl, hdl2, _⟩ := a3' _ ol hol
 have hkeys : ∀ e ∈ bs, ∀ i o, i < l.length - 1 → l[i]? = some o → o.dst ≠ some e.1 := fun e he i o hi ho => by
  have := List.all_eq_true.1 b5 e.1 (List.mem_map_of_mem he)
  have := List.all_eq_true.1 this o (List.mem_iff_getElem?.2 ⟨i, by rw [List.getElem?_dropLast, if_pos hi]; exact ho⟩)
  simpa using this
 have hbs' := all_mem hbs
 refine AW.anyI hP (fun L t' m' => m' = m ∧ (∀ i o, l[i]? = some o → L i = true → ∀ j ∈ depsO o, L j = true) ∧ (∀ i d v, acc[i]? = some (d, v) → L i = true → t' d = some v) ∧ ∀ e ∈ bs, (L (l.length - 1) = false ∨ e.1 ≠ dl) → t' e.1 = some e.2) b1
  ⟨rfl, fun i o _ h => (by cases h), fun i d v _ h => (by cases h), fun e he _ => hbs' e he⟩ ?_ ?_
 ·rintro i o hi L t' m' ⟨rfl, c1, c2, c3⟩ hLi hdeps
  obtain ⟨d, v, q1, q2, q3⟩ := a3' i o hi
  have hil := (List.getElem?_eq_some_iff.1 hi).1
  have hLl : L (l.length - 1) = false := by
   cases e : L (l.length - 1) with
   | false => rfl
   | true => rw [hall L c1 e i hil] at hLi; cases hLi
  have hback := List.all_eq_true.1 b1 i (List.mem_range.2 hil)
  rw [hi] at hback
  simp only at hback
  refine (Step.weakF (fun s x hx => ?_) q2 q3).mono fun x m' hk => ?_
  ·rcases List.mem_append.1 (fr_get hx) with hx | hx
   ·obtain ⟨j, hj, he⟩ := List.mem_map.1 hx
    have hji : j < i := by simpa using List.all_eq_true.1 hback j hj
    have hja : j < acc.length := by omega
    have e : acc[j]? = some (s, x) := by
     have hlt : (acc.take i).length = i := by rw [List.length_take]; omega
     rw [List.getD_eq_getElem?_getD, List.getElem?_reverse (by omega), hlt, show i - 1 - (i - 1 - j) = j by omega, List.getElem?_take, if_pos hji, List.getElem?_eq_getElem hja] at he
     rw [List.getElem?_eq_getElem hja]
     simpa using he
    exact c2 j s x e (hdeps j hj)
   ·exact c3 (s, x) hx (.inl hLl)
  ·rw [q2] at hk ⊢
   simp only [putO] at hk ⊢
   obtain ⟨k1, rfl⟩ := hk
   rw [k1]
   refine ⟨rfl, fun j o' hj hLj k hk => ?_, fun j d' v' hj hLj => ?_, fun e he hc => ?_⟩
   ·by_cases e : k = i
    ·subst e; exact upL_same L k
    ·rw [upL_ne L e]
     by_cases e' : j = i
     ·subst e'
      rw [hi] at hj
      injection hj with hj
      subst hj
      exact hdeps k hk
     ·rw [upL_ne L e'] at hLj
      exact c1 j o' hj hLj k hk
   ·by_cases e : j = i
    ·subst e
     rw [q1] at hj
     simp only [Option.some.injEq, Prod.mk.injEq] at hj
     obtain ⟨rfl, rfl⟩ := hj
     exact put_same ..
    ·rw [upL_ne L e] at hLj
     have hjl : j < l.length := by have := (List.getElem?_eq_some_iff.1 hj).1; omega
     obtain ⟨d2, v2, w1, w2, _⟩ := a3' j _ (List.getElem?_eq_getElem hjl)
     rw [hj] at w1
     simp only [Option.some.injEq, Prod.mk.injEq] at w1
     obtain ⟨rfl, rfl⟩ := w1
     rw [put_ne]
     ·exact c2 j d' v' hj hLj
     ·rintro rfl
      exact hdiff j i _ o (List.getElem?_eq_getElem hjl) hi e (w2.trans q2.symm)
   ·rw [put_ne]
    ·exact c3 e he (.inl hLl)
    ·intro q
     by_cases e' : i = l.length - 1
     ·subst e'
      rw [upL_same] at hc
      rw [hi] at hol
      injection hol with hol
      subst hol
      rw [q2] at hdl2
      injection hdl2 with hdl2
      rcases hc with hc | hc
      ·cases hc
      ·exact hc (by rw [q, hdl2])
     ·exact hkeys e he i o (by omega) hi (by rw [q2, q])
 ·rintro L t' m' hL ⟨rfl, c1, c2, c3⟩
  refine h2 t' fun i v hi => ?_
  have hq : fr (acc.reverse ++ bs) i = some v := by
   exact all_mem a2 (i, v) (fr_get hi)
  rw [fr_app] at hq
  cases hfa : fr acc.reverse i with
  | some x =>
   rw [hfa] at hq
   simp only [Option.some.injEq] at hq
   subst hq
   obtain ⟨j, hj⟩ := List.mem_iff_getElem?.1 (List.mem_reverse.1 (fr_get hfa))
   exact c2 j i x hj (hL j (by have := (List.getElem?_eq_some_iff.1 hj).1; omega))
  | none =>
   rw [hfa] at hq
   simp only at hq
   have hne := fr_none hfa (dl, vl) (List.mem_reverse.2 (List.mem_of_getElem? hdl))
   exact c3 (i, v) (fr_get hq) (.inr fun e => hne e.symm)
def flatNB (l : List Oper) (ks : List Nat) (D : List (List Nat)) : Bool :=
 decide (D = backL l) && (backB l && ((l.map (·.dst)).Nodup && (ks.all fun k => l.all fun o => o.dst != some k)))
theorem AW.flatN (hP : Fit P) {id : Nat} {Q : AEx → Fm → AM → Prop} (bs l1 : List (Nat × Value)) (ks : List Nat) (D : List (List Nat)) (hbs : All (fun i v => t i = some v) bs) (hks : bs.map (·.1) = ks) (hb : flatNB l ks D = true)
  (h : AWf P nt m l.toArray bs l D [] (fun acc => All (fun i v => fr (acc ++ bs) i = some v) l1)) (h2 : ∀ t', (∀ i v, fr l1 i = some v → t' i = some v) → Q .normal t' m) : AW P nt m0 (.region id l.toArray true) t m Q := by
 subst hks
 simp only [flatNB, Bool.and_eq_true] at hb
 obtain ⟨bD, b1, b3, b5⟩ := hb
 have eD : D = backL l := of_decide_eq_true bD
 obtain ⟨acc, a1, a2, a3⟩ := AWf.get h
 rw [List.append_nil] at a2
 have a3' : ∀ i o, l[i]? = some o → ∃ d v, acc[i]? = some (d, v) ∧ o.dst = some d ∧ Step P nt l.toArray o (fr ((depsO o).map (fun j => (acc.take i).reverse.getD (i - 1 - j) (0, undef)) ++ bs)) m (fun t' m' => t' d = some v ∧ m' = m) := fun i o hi => by
  obtain ⟨d, v, k1, k2, k3⟩ := a3 i o hi
  refine ⟨d, v, k1, k2, ?_⟩
  have hil := (List.getElem?_eq_some_iff.1 hi).1
  have : D.getD i [] = (depsO o).map fun j => i - 1 - j := by
   rw [eD]
   have ho : l[i] = o := by rw [List.getElem?_eq_getElem hil] at hi; injection hi
   simp [backL, hil, ho]
  rw [this, List.append_nil] at k3
  unfold depL at k3
  rw [List.map_map] at k3
  exact k3
 have hnd : (l.map (·.dst)).Nodup := by simpa using b3
 have hdiff : ∀ (i j : Nat) (o o' : Oper), l[i]? = some o → l[j]? = some o' → i ≠ j → o.dst ≠ o'.dst := fun i j o o' hi hj hij e => by
  have hi' := (List.getElem?_eq_some_iff.1 hi).1
  have hj' := (List.getElem?_eq_some_iff.1 hj).1
  have := (List.getElem_inj (h₀ := by simpa using hi') (h₁ := by simpa using hj') hnd).1 (by
   simp only [List.getElem_map]
   have e1 : l[i] = o := by rw [List.getElem?_eq_getElem hi'] at hi; injection hi
   have e2 : l[j] = o' := by rw [List.getElem?_eq_getElem hj'] at hj; injection hj
   rw [e1, e2, e])
  exact hij this
 have hkeys : ∀ e ∈ bs, ∀ (i : Nat) (o : Oper), l[i]? = some o → o.dst ≠ some e.1 := fun e he i o ho => by
  have := List.all_eq_true.1 b5 e.1 (List.mem_map_of_mem he)
  have := List.all_eq_true.1 this o (List.mem_iff_getElem?.2 ⟨i, ho⟩)
  simpa using this
 have hbs' := all_mem hbs
 refine AW.anyI hP (fun L t' m' => m' = m ∧ (∀ i d v, acc[i]? = some (d, v) → L i = true → t' d = some v) ∧ ∀ e ∈ bs, t' e.1 = some e.2) b1
  ⟨rfl, fun i d v _ h => (by cases h), fun e he => hbs' e he⟩ ?_ ?_
 ·rintro i o hi L t' m' ⟨rfl, c2, c3⟩ hLi hdeps
  obtain ⟨d, v, q1, q2, q3⟩ := a3' i o hi
  have hil := (List.getElem?_eq_some_iff.1 hi).1
  have hback := List.all_eq_true.1 b1 i (List.mem_range.2 hil)
  rw [hi] at hback
  simp only at hback
  refine (Step.weakF (fun s x hx => ?_) q2 q3).mono fun x m' hk => ?_
  ·rcases List.mem_append.1 (fr_get hx) with hx | hx
   ·obtain ⟨j, hj, he⟩ := List.mem_map.1 hx
    have hji : j < i := by simpa using List.all_eq_true.1 hback j hj
    have hja : j < acc.length := by omega
    have e : acc[j]? = some (s, x) := by
     have hlt : (acc.take i).length = i := by rw [List.length_take]; omega
     rw [List.getD_eq_getElem?_getD, List.getElem?_reverse (by omega), hlt, show i - 1 - (i - 1 - j) = j by omega, List.getElem?_take, if_pos hji, List.getElem?_eq_getElem hja] at he
     rw [List.getElem?_eq_getElem hja]
     simpa using he
    exact c2 j s x e (hdeps j hj)
   ·exact c3 (s, x) hx
  ·rw [q2] at hk ⊢
   simp only [putO] at hk ⊢
   obtain ⟨k1, rfl⟩ := hk
   rw [k1]
   refine ⟨rfl, fun j d' v' hj hLj => ?_, fun e he => ?_⟩
   ·by_cases e : j = i
    ·subst e
     rw [q1] at hj
     simp only [Option.some.injEq, Prod.mk.injEq] at hj
     obtain ⟨rfl, rfl⟩ := hj
     exact put_same ..
    ·rw [upL_ne L e] at hLj
     have hjl : j < l.length := by have := (List.getElem?_eq_some_iff.1 hj).1; omega
     obtain ⟨d2, v2, w1, w2, _⟩ := a3' j _ (List.getElem?_eq_getElem hjl)
     rw [hj] at w1
     simp only [Option.some.injEq, Prod.mk.injEq] at w1
     obtain ⟨rfl, rfl⟩ := w1
     rw [put_ne]
     ·exact c2 j d' v' hj hLj
     ·rintro rfl
      exact hdiff j i _ o (List.getElem?_eq_getElem hjl) hi e (w2.trans q2.symm)
   ·rw [put_ne]
    ·exact c3 e he
    ·intro q
     exact hkeys e he i o hi (by rw [q2, q])
 ·rintro L t' m' hL ⟨rfl, c2, c3⟩
  refine h2 t' fun i v hi => ?_
  have hq : fr (acc.reverse ++ bs) i = some v := by
   exact all_mem a2 (i, v) (fr_get hi)
  rw [fr_app] at hq
  cases hfa : fr acc.reverse i with
  | some x =>
   rw [hfa] at hq
   simp only [Option.some.injEq] at hq
   subst hq
   obtain ⟨j, hj⟩ := List.mem_iff_getElem?.1 (List.mem_reverse.1 (fr_get hfa))
   exact c2 j i x hj (hL j (by have := (List.getElem?_eq_some_iff.1 hj).1; omega))
  | none =>
   rw [hfa] at hq
   simp only at hq
   exact c3 (i, v) (fr_get hq)
theorem putO_sub {t1 t : Fm} (hs : ∀ i v, t1 i = some v → t i = some v) (d : Option Tmp) (v : Value) : ∀ i x, putO t1 d v i = some x → putO t d v i = some x := by
 intro i x h
 cases d with
 | none => exact hs i x h
 | some d =>
  simp only [putO] at h ⊢
  by_cases e : i = d
  ·subst e; rw [put_same] at h ⊢; exact h
  ·rw [put_ne _ _ e] at h ⊢; exact hs i x h
def flatLB (l : List Oper) (ks : List Nat) (D : List (List Nat)) : Bool :=
 decide (D = backL l) && (Nat.blt 0 l.length && (backB l && ((l.map (·.dst)).Nodup && (((List.range (l.length - 1)).all fun i => (List.range l.length).any fun j => Nat.blt i j && match l[j]? with | some o => (depsO o).contains i | none => false) &&
  (ks.all fun k => (l.dropLast).all fun o => o.dst != some k)))))
theorem AW.flatL (hP : Fit P) {id : Nat} {l' : List Oper} {last : Oper} {Q : AEx → Fm → AM → Prop} (bs : List (Nat × Value)) (ks : List Nat) (D : List (List Nat)) (hbs : All (fun i v => t i = some v) bs) (hks : bs.map (·.1) = ks) (hl : l = l' ++ [last]) (hb : flatLB l ks D = true)
  (h : AWf P nt m l.toArray bs l' D [] (fun acc => Step P nt l.toArray last (fr (acc ++ bs)) m (fun t1 m' => ∀ t2, (∀ i v, t1 i = some v → t2 i = some v) → Q .normal t2 m'))) : AW P nt m0 (.region id l.toArray true) t m Q := by
 subst hks
 simp only [flatLB, Bool.and_eq_true] at hb
 obtain ⟨bD, b0, b1, b3, b4, b5⟩ := hb
 have hn : 0 < l.length := by simpa using b0
 have eD : D = backL l := of_decide_eq_true bD
 obtain ⟨acc, a1, a2, a3⟩ := AWf.get h
 rw [List.append_nil] at a2
 have hll : l.length = l'.length + 1 := by rw [hl]; simp
 have hget : ∀ i, i < l'.length → l[i]? = l'[i]? := fun i hi => by rw [hl, List.getElem?_append_left hi]
 have hlast : l[l'.length]? = some last := by rw [hl, List.getElem?_append_right (Nat.le_refl _), Nat.sub_self]; rfl
 have a3' : ∀ i o, l'[i]? = some o → ∃ d v, acc[i]? = some (d, v) ∧ o.dst = some d ∧ Step P nt l.toArray o (fr ((depsO o).map (fun j => (acc.take i).reverse.getD (i - 1 - j) (0, undef)) ++ bs)) m (fun t' m' => t' d = some v ∧ m' = m) := fun i o hi => by
  obtain ⟨d, v, k1, k2, k3⟩ := a3 i o hi
  refine ⟨d, v, k1, k2, ?_⟩
  have hil' := (List.getElem?_eq_some_iff.1 hi).1
  have hil : i < l.length := by omega
  rw [← hget i hil'] at hi
  have : D.getD i [] = (depsO o).map fun j => i - 1 - j := by
   rw [eD]
   have ho : l[i] = o := by rw [List.getElem?_eq_getElem hil] at hi; injection hi
   simp [backL, hil, ho]
  rw [this, List.append_nil] at k3
  unfold depL at k3
  rw [List.map_map] at k3
  exact k3
 have hnd : (l.map (·.dst)).Nodup := by simpa using b3
 have hdiff : ∀ (i j : Nat) (o o' : Oper), l[i]? = some o → l[j]? = some o' → i ≠ j → o.dst ≠ o'.dst := fun i j o o' hi hj hij e => by
  have hi' := (List.getElem?_eq_some_iff.1 hi).1
  have hj' := (List.getElem?_eq_some_iff.1 hj).1
  have := (List.getElem_inj (h₀ := by simpa using hi') (h₁ := by simpa using hj') hnd).1 (by
   simp only [List.getElem_map]
   have e1 : l[i] = o := by rw [List.getElem?_eq_getElem hi'] at hi; injection hi
   have e2 : l[j] = o' := by rw [List.getElem?_eq_getElem hj'] at hj; injection hj
   rw [e1, e2, e])
  exact hij this
 have hall : ∀ (L : Nat → Bool), (∀ i o, l[i]? = some o → L i = true → ∀ j ∈ depsO o, L j = true) → L (l.length - 1) = true → ∀ i, i < l.length → L i = true := by
  intro L hc hl
  suffices H : ∀ k i, i < l.length → l.length - 1 - i ≤ k → L i = true from fun i hi => H _ i hi (Nat.le_refl _)
  intro k
  induction k with
  | zero => intro i hi hk; rw [show i = l.length - 1 by omega]; exact hl
  | succ k ih =>
   intro i hi hk
   by_cases e : i = l.length - 1
   ·rw [e]; exact hl
   ·have := List.all_eq_true.1 b4 i (List.mem_range.2 (by omega))
    obtain ⟨j, hj1, hj2⟩ := List.any_eq_true.1 this
    simp only [Bool.and_eq_true] at hj2
    obtain ⟨hj2, hj3⟩ := hj2
    have hij : i < j := by simpa using hj2
    have hjl := List.mem_range.1 hj1
    rw [List.getElem?_eq_getElem hjl] at hj3
    simp only at hj3
    have hLj := ih j hjl (by omega)
    exact hc j _ (List.getElem?_eq_getElem hjl) hLj i (by simpa using hj3)
 have hkeys : ∀ e ∈ bs, ∀ i o, i < l.length - 1 → l[i]? = some o → o.dst ≠ some e.1 := fun e he i o hi ho => by
  have := List.all_eq_true.1 b5 e.1 (List.mem_map_of_mem he)
  have := List.all_eq_true.1 this o (List.mem_iff_getElem?.2 ⟨i, by rw [List.getElem?_dropLast, if_pos hi]; exact ho⟩)
  simpa using this
 have hbs' := all_mem hbs
 have hsub : ∀ (L : Nat → Bool) (t' : Fm), (∀ i d v, acc[i]? = some (d, v) → L i = true → t' d = some v) → (∀ e ∈ bs, t' e.1 = some e.2) → ∀ (i : Nat) (A : List (Nat × Value)), (∀ e ∈ A, ∃ j, acc[j]? = some e ∧ L j = true) → ∀ s x, fr (A ++ bs) s = some x → t' s = some x := by
  intro L t' c2 c3 i A hA s x hx
  rcases List.mem_append.1 (fr_get hx) with hx | hx
  ·obtain ⟨j, h1, h2⟩ := hA _ hx
   exact c2 j s x h1 h2
  ·exact c3 (s, x) hx
 refine AW.anyI hP (fun L t' m' => (∀ i o, l[i]? = some o → L i = true → ∀ j ∈ depsO o, L j = true) ∧ ((L l'.length = false ∧ m' = m ∧ (∀ i d v, acc[i]? = some (d, v) → L i = true → t' d = some v) ∧ ∀ e ∈ bs, t' e.1 = some e.2) ∨ (L l'.length = true ∧ Q .normal t' m'))) b1
  ⟨fun i o _ h => (by cases h), .inl ⟨rfl, rfl, fun i d v _ h => (by cases h), fun e he => hbs' e he⟩⟩ ?_ ?_
 ·rintro i o hi L t' m' ⟨c1, hor⟩ hLi hdeps
  have hil := (List.getElem?_eq_some_iff.1 hi).1
  have hLl : L l'.length = false := by
   cases e : L l'.length with
   | false => rfl
   | true => rw [hall L c1 (by rw [hll, Nat.add_sub_cancel]; exact e) i hil] at hLi; cases hLi
  rcases hor with ⟨_, rfl, c2, c3⟩ | ⟨hx, _⟩
  ·have hback := List.all_eq_true.1 b1 i (List.mem_range.2 hil)
   rw [hi] at hback
   simp only at hback
   have hc1 : ∀ j o', l[j]? = some o' → upL L i j = true → ∀ k ∈ depsO o', upL L i k = true := fun j o' hj hLj k hk => by
    by_cases e : k = i
    ·subst e; exact upL_same L k
    ·rw [upL_ne L e]
     by_cases e' : j = i
     ·subst e'
      rw [hi] at hj
      injection hj with hj
      subst hj
      exact hdeps k hk
     ·rw [upL_ne L e'] at hLj
      exact c1 j o' hj hLj k hk
   rcases Nat.lt_or_ge i l'.length with hlt | hge
   ·obtain ⟨d, v, q1, q2, q3⟩ := a3' i o (by rw [← hget i hlt]; exact hi)
    refine (Step.weakF (hsub L t' c2 c3 i _ fun e he => ?_) q2 q3).mono fun x m' hk => ?_
    ·obtain ⟨j, hj, he⟩ := List.mem_map.1 he
     have hji : j < i := by simpa using List.all_eq_true.1 hback j hj
     have hja : j < acc.length := by omega
     refine ⟨j, ?_, hdeps j hj⟩
     have hlt : (acc.take i).length = i := by rw [List.length_take]; omega
     rw [List.getD_eq_getElem?_getD, List.getElem?_reverse (by omega), hlt, show i - 1 - (i - 1 - j) = j by omega, List.getElem?_take, if_pos hji, List.getElem?_eq_getElem hja] at he
     rw [List.getElem?_eq_getElem hja]
     simpa using he
    ·rw [q2] at hk ⊢
     simp only [putO] at hk ⊢
     obtain ⟨k1, rfl⟩ := hk
     rw [k1]
     refine ⟨hc1, .inl ⟨by rw [upL_ne L (by omega)]; exact hLl, rfl, fun j d' v' hj hLj => ?_, fun e he => ?_⟩⟩
     ·by_cases e : j = i
      ·subst e
       rw [q1] at hj
       simp only [Option.some.injEq, Prod.mk.injEq] at hj
       obtain ⟨rfl, rfl⟩ := hj
       exact put_same ..
      ·rw [upL_ne L e] at hLj
       have hjl : j < l'.length := by have := (List.getElem?_eq_some_iff.1 hj).1; omega
       obtain ⟨d2, v2, w1, w2, _⟩ := a3' j _ (List.getElem?_eq_getElem hjl)
       rw [hj] at w1
       simp only [Option.some.injEq, Prod.mk.injEq] at w1
       obtain ⟨rfl, rfl⟩ := w1
       rw [put_ne]
       ·exact c2 j d' v' hj hLj
       ·rintro rfl
        exact hdiff j i _ o (by rw [hget j hjl]; exact List.getElem?_eq_getElem hjl) hi e (w2.trans q2.symm)
     ·rw [put_ne]
      ·exact c3 e he
      ·intro q
       exact hkeys e he i o (by omega) hi (by rw [q2, q])
   ·obtain rfl : i = l'.length := by omega
    rw [hlast] at hi
    injection hi with hi
    subst hi
    have hallL : ∀ j, j < l'.length → L j = true := by
     have hup := hall (upL L l'.length) hc1 (by rw [hll, Nat.add_sub_cancel]; exact upL_same ..)
     intro j hj
     have := hup j (by omega)
     rwa [upL_ne L (by omega)] at this
    have hs' := hsub L t' c2 c3 0 acc.reverse fun e he => by
     obtain ⟨j, hj⟩ := List.mem_iff_getElem?.1 (List.mem_reverse.1 he)
     exact ⟨j, hj, hallL j (by have := (List.getElem?_eq_some_iff.1 hj).1; omega)⟩
    refine Step.weakK hs' (fun v m' hk => ?_) a2
    exact ⟨hc1, .inr ⟨upL_same .., hk _ (putO_sub hs' _ _)⟩⟩
  ·rw [hLl] at hx; cases hx
 ·rintro L t' m' hL ⟨c1, hor⟩
  rcases hor with ⟨h1, _⟩ | ⟨_, h1⟩
  ·rw [hL _ (by omega)] at h1; cases h1
  ·exact h1
end
def AWfL (P : Program) (nt : Nat) (m : AM) (ops : Array Oper) (bs : List (Nat × Value)) (K : Fm → AM → Prop) : List Oper → List (List Nat) → List (Nat × Value) → Prop
 | [], _, _ => False
 | [o], _, acc => Step P nt ops o (fr (acc ++ bs)) m K
 | o :: o' :: rest, D, acc => ∃ d v, o.dst = some d ∧ Step P nt ops o (fr (depL acc (D.headD []) ++ bs)) m (fun t' m' => t' d = some v ∧ m' = m) ∧ AWfL P nt m ops bs K (o' :: rest) D.tail ((d, v) :: acc)
section
variable {P : Program} {nt : Nat} {t : Fm} {m m0 : AM} {l : List Oper} {bs : List (Nat × Value)} {K : Fm → AM → Prop}
theorem AWfL.cons {ops : Array Oper} {o o' : Oper} {rest : List Oper} {dd : List Nat} {D : List (List Nat)} {acc : List (Nat × Value)} {d : Nat} {v : Value} (hd : o.dst = some d) (h : Step P nt ops o (fr (depL acc dd ++ bs)) m (fun t' m' => t' d = some v ∧ m' = m)) (hr : AWfL P nt m ops bs K (o' :: rest) D ((d, v) :: acc)) :
  AWfL P nt m ops bs K (o :: o' :: rest) (dd :: D) acc := ⟨d, v, hd, h, hr⟩
theorem AWfL.last {ops : Array Oper} {o : Oper} {D : List (List Nat)} {acc : List (Nat × Value)} (h : Step P nt ops o (fr (acc ++ bs)) m K) : AWfL P nt m ops bs K [o] D acc := h
theorem AWfL.split {ops : Array Oper} : ∀ {l : List Oper} {D : List (List Nat)} {acc : List (Nat × Value)}, AWfL P nt m ops bs K l D acc → ∃ l' last, l = l' ++ [last] ∧ AWf P nt m ops bs l' D acc (fun acc => Step P nt ops last (fr (acc ++ bs)) m K)
 | [], _, _, h => h.elim
 | [o], D, acc, h => ⟨[], o, rfl, h⟩
 | o :: o' :: rest, D, acc, h => by
  obtain ⟨d, v, hd, h1, h2⟩ := h
  obtain ⟨l', last, e, h3⟩ := AWfL.split h2
  exact ⟨o :: l', last, by rw [e]; rfl, d, v, hd, h1, h3⟩
theorem AW.flatM (hP : Fit P) {id : Nat} {Q : AEx → Fm → AM → Prop} (bs : List (Nat × Value)) (ks : List Nat) (D : List (List Nat)) (hbs : All (fun i v => t i = some v) bs) (hks : bs.map (·.1) = ks) (hb : flatLB l ks D = true)
  (h : AWfL P nt m l.toArray bs (fun t1 m' => ∀ t2, (∀ i v, t1 i = some v → t2 i = some v) → Q .normal t2 m') l D []) : AW P nt m0 (.region id l.toArray true) t m Q := by
 obtain ⟨l', last, e, h1⟩ := h.split
 exact AW.flatL hP bs ks D hbs hks e hb h1
end
theorem Gc.cut {t : Fm} {m0 M L : AM} {l : List (Nat × Value)} (hl : m0.length ≤ M.length) (hM : ∀ (j : Nat) (b : Blk), M[j]? = some (some b) → (j < m0.length ∧ m0[j]? = some (some b)) ∨ (isMapK b.kind = false ∧ ∀ v ∈ b.cells, Ren rid M.length v v)) (h : All (fun i v => t i = some v ∧ Ren rid M.length v v) l) : Gc m0 t (M ++ L) (fr l) M :=
 ⟨rid, hl, fun _ _ => rfl, fun _ _ _ _ _ _ e => e, fun j b hj => by
  rcases hM j b hj with ⟨h1, h2⟩ | ⟨h1, h2⟩
  ·exact .inl ⟨h1, get_old L hj, h2⟩
  ·exact .inr ⟨h1, b, get_old L hj, rfl, rfl, rfl, fun k v hk => ⟨v, hk, h2 v (List.mem_of_getElem? hk)⟩⟩, fun i v hi => by
  obtain ⟨h1, h2⟩ := fr_all h i v hi
  exact ⟨v, h1, h2⟩⟩
theorem Step.callVM {P : Program} {nt : Nat} {ops : Array Oper} {t : Fm} {m m' : AM} {K : Fm → AM → Prop} {d T : Nat} {p : String} {af : Array Edge} {x : Operand} {args : Array Operand} {tys : Array TypeId} {g : FuncId} {f c : Array Value} {vs : List Value} {fn : Func} {b : Code} {r : Value} (hP : Fit P) (hx : evo t x = some (.func (.func g) f c)) (ha : evL t args.toList = some vs) (hf : P.funcs[g]? = some fn) (hb : fn.body = some b)
  (hlt : Nat.blt d nt = true) (h : ACall P g (f ++ vs.toArray ++ c) m (Ret r m')) (hK : K (put t d r) m') : Step P nt ops ⟨some d, .call ⟨.value x, args, tys⟩, T, p, af, none⟩ t m K :=
 .call hP hx ha hf hb hlt h (by rintro v m1 ⟨rfl, rfl⟩; exact hK)
open Go.Proofs
def Fair (v : List Int) : Prop := ∀ i, 0 ≤ v.getD i 0 ∧ v.getD i 0 ≤ 1000000000000
theorem mxc_fair {f : Nat → Int} (h : ∀ i, f i ≤ 2000000000000) : ∀ k, 0 ≤ mxc f k ∧ mxc f k ≤ 2000000000000
 | 0 => by simp [mxc]
 | k + 1 => by have := mxc_fair h k; have := h (k + 1); simp only [mxc]; omega
set_option maxHeartbeats 8000000 in
set_option maxRecDepth 100000 in
theorem cuts_ok {m : AM} {p : Nat} {vv : Value} {B : Brd} {K : List Kd} (hB : BoardAt m p B K) (hg : goodB B K = true) {r : R4} (hr : r.ok (bw B) (bh B)) (d : Bool) {v : List Int} (hv : Ints m vv v) (hl : v.length = total (bw B) (bh B)) (hf : Fair v) :
  ACall Tryd.prog 65 #[.pointer (some ⟨p, 0, none⟩), r.rc.v, .int .i64 (opI d), vv] m (Ret (.int .i64 (cutM (tg (bw B) (bh B) v) r d)) m) := by
 have hgb : boardB B = true := by simp only [goodB, Bool.and_eq_true] at hg; exact hg.1
 have hin := good_in hgb
 have hp := hB.lt
 have tw := hB.w
 have th := hB.h
 have hrl := hr
 simp only [R4.ok] at hrl
 obtain ⟨A, O, sl, la, rd⟩ := hv
 obtain ⟨q', c', rfl⟩ := sl.shape
 have wl : Low m.length (.slice q' v.length c') := Low.of_sl sl la
 have hlen := len_pos d hr
 have hlen2 := len_le d hin.2.2.2 hin.2.1 hr
 have hL := fun m => length_ok (m := m) r d
 obtain ⟨n, hn⟩ : ∃ n, r.len d = n := ⟨_, rfl⟩
 have hN := fun T (r' : R4) (h : r'.ok (bw B) (bh B)) => num_ok (m := m ++ T) hin.2.2.2 hin.2.1 h
 have hat := fun (r' : R4) (h : r'.ok (bw B) (bh B)) => at_lt hin.2.2.2 hin.2.1 h
 have hP := fun m i h1 h2 => part_ok (m := m) r d (i := i) h1 h2 (by omega)
 rw [← hl] at hat
 have r0 : ∀ T : AM, RdL (m ++ (some { cells := r.rc.cells } :: T)) (m.length + 0) 0 r.rc.cells := fun T => RdL.new rfl rfl
 have hcut : cutM (tg (bw B) (bh B) v) r d = mxc (fun i => tg (bw B) (bh B) v (r.lo d i) + tg (bw B) (bh B) v (r.hi d i)) (n - 1) := by rw [← hn]; rfl
 rw [hcut]
 have hmf := mxc_fair (f := fun i => tg (bw B) (bh B) v (r.lo d i) + tg (bw B) (bh B) v (r.hi d i)) (fun i => by have h1 := hf ((r.lo d i).at (bw B) (bh B)); have h2 := hf ((r.hi d i).at (bw B) (bh B)); unfold tg; omega)
 generalize hF : (fun i => tg (bw B) (bh B) v (r.lo d i) + tg (bw B) (bh B) v (r.hi d i)) = F at hmf ⊢
 rw [hn] at hlen hlen2 hL
 clear hcut
 change ∀ m, ACall Tryd.prog 53 #[.agg r.rc.cells.toArray, .int .i64 (opI d)] m _ at hL
 change ∀ m i, 1 ≤ i → i + 1 ≤ r.len d → ACall Tryd.prog 54 #[.agg r.rc.cells.toArray, .int .i64 (opI d), .int .i64 (i : Nat)] m _ at hP
 have hg0 : ∀ v ∈ r.rc.cells, g0 v = true := fun v hv => by
  simp [Rc.cells] at hv
  rcases hv with rfl | rfl | rfl | rfl <;> rfl
 refine ACall.start Tryd.func65 rfl rfl ?_
 (repeat (first|(with_reducible refine AWo.cons ?_)|((with_reducible refine Step.id ?_);first|((with_reducible apply Step.assign);exact rfl;exact rfl)|((with_reducible apply Step.box 0);exact rfl;exact rfl;((kernel_rfl));exact rfl;((first|(simp only [zq7, zq8, zq9, zq0, iv_set, bv_set, iv_rep, bv_rep] <;> rfl)|rfl))))|(with_reducible first|apply AWo.nil|apply AW.seq|apply Then.n|apply AW.regL|apply AW.block)))
 refine AW.loopT (fun rk t L => ∃ i : Nat, rk = n - i ∧ 1 ≤ i ∧ i ≤ n ∧ L = [some { cells := r.rc.cells }] ∧
  t = [(0, .pointer (some ⟨p, 0, none⟩)), (2, .int .i64 (opI d)), (3, .slice q' v.length c'), (5, .pointer (some ⟨m.length + 0, 0, none⟩)), (9, .int .i64 (mxc F (i - 1))), (10, .int .i64 (i : Nat))])
  ⟨_, _, _, (Or.inl ⟨rfl, (by repeat (first | exact trivial | (refine And.intro rfl ?_)))⟩), 1, rfl, Nat.le_refl _, by omega, rfl, rfl⟩ ?_
 rintro rk t L ⟨i, rfl, hi1, hi, rfl, rfl⟩
 rcases Nat.lt_or_ge i n with hlt | hge
 ·have o1 := lo_ok (d := d) (i := i) hr hi1 (by omega)
  have o2 := hi_ok (d := d) (i := i) hr hi1 (by omega)
  have d1 := rd _ (hat _ o1)
  have d2 := rd _ (hat _ o2)
  have x1 := hat _ o1
  have x2 := hat _ o2
  have n1 := fun T => hN T _ o1
  have n2 := fun T => hN T _ o2
  have f1 := hf ((r.lo d i).at (bw B) (bh B))
  have f2 := hf ((r.hi d i).at (bw B) (bh B))
  have hPi := fun m => hP m i hi1 (by omega)
  have eF : F i = v.getD ((r.lo d i).at (bw B) (bh B)) 0 + v.getD ((r.hi d i).at (bw B) (bh B)) 0 := by rw [← hF]; rfl
  obtain ⟨k, rfl⟩ : ∃ k, i = k + 1 := ⟨i - 1, by omega⟩
  have hb := hmf k
  have eM : mxc F (k + 1) = max (mxc F k) (F (k + 1)) := rfl
  rw [Nat.add_sub_cancel]
  change ∀ T, ACall Tryd.prog 36 #[.int .i64 (bw B : Nat), .int .i64 (bh B : Nat), .agg (r.lo d (k + 1)).rc.cells.toArray] (m ++ T) _ at n1
  change ∀ T, ACall Tryd.prog 36 #[.int .i64 (bw B : Nat), .int .i64 (bh B : Nat), .agg (r.hi d (k + 1)).rc.cells.toArray] (m ++ T) _ at n2
  change ∀ m, ACall Tryd.prog 54 _ m (Ret (.tuple #[.agg (r.lo d (k + 1)).rc.cells.toArray, .agg (r.hi d (k + 1)).rc.cells.toArray]) m) at hPi
  generalize (r.lo d (k + 1)).at (bw B) (bh B) = s1 at *
  generalize (r.hi d (k + 1)).at (bw B) (bh B) = s2 at *
  generalize (r.lo d (k + 1)).rc = g1 at *
  generalize (r.hi d (k + 1)).rc = g2 at *
  have r1 : ∀ b0 (T : AM), RdL (m ++ (b0 :: some { cells := g1.cells } :: T)) (m.length + 1) 0 g1.cells := fun b0 T => RdL.new rfl rfl
  have r2 : ∀ b0 b1 (T : AM), RdL (m ++ (b0 :: b1 :: some { cells := g2.cells } :: T)) (m.length + 2) 0 g2.cells := fun b0 b1 T => RdL.new rfl rfl
  (repeat (first|(with_reducible refine AWo.cons ?_)|((with_reducible refine Step.id ?_);first|((with_reducible apply Step.move);exact rfl;exact rfl)|((with_reducible apply Step.loadL (n := 4));exact rfl;((decide +kernel));((decide +kernel));exact rfl;((exact RdL.new rfl rfl));exact rfl;exact rfl)|((with_reducible apply Step.lss);exact rfl;exact rfl;exact rfl)|((with_reducible apply Step.extract);exact rfl;exact rfl;exact rfl)|((with_reducible apply Step.callR fit);exact rfl;exact Tryd.func53;exact rfl;exact rfl;exact (hL _))|((with_reducible apply Step.callR fit);exact rfl;exact Tryd.func54;exact rfl;exact rfl;exact (hPi _))|((with_reducible apply Step.alloc 1);exact rfl;exact ze23;exact rfl;((first|(simp only [zq7, zq8, zq9, zq0, iv_set, bv_set, iv_rep, bv_rep] <;> rfl)|rfl)))|((with_reducible apply Step.storeA (k := 1) (n := 4));exact rfl;exact rfl;exact rfl;exact rfl;((decide +kernel));exact rfl;((kernel_rfl));exact rfl;((first|(simp only [zq7, zq8, zq9, zq0, iv_set, bv_set, iv_rep, bv_rep] <;> rfl)|rfl)))|((with_reducible apply Step.alloc 2);exact rfl;exact ze23;exact rfl;((first|(simp only [zq7, zq8, zq9, zq0, iv_set, bv_set, iv_rep, bv_rep] <;> rfl)|rfl)))|((with_reducible apply Step.storeA (k := 2) (n := 4));exact rfl;exact rfl;exact rfl;exact rfl;((decide +kernel));exact rfl;((kernel_rfl));exact rfl;((first|(simp only [zq7, zq8, zq9, zq0, iv_set, bv_set, iv_rep, bv_rep] <;> rfl)|rfl))))|(with_reducible first|apply AWo.nil|apply AW.seq|apply Then.n)|((fail_if_success (with_reducible refine AW.atL (id := 6) ?_));(with_reducible apply AW.regL))|(with_reducible first|apply AW.block|apply AW.skip)|((with_reducible apply AW.condT);exact rfl;(((simp only [zq1, zq2, zq3, zq4, zq5, zq6];first|assumption|omega))))))
  refine AW.flat fit [(0, .pointer (some ⟨p, 0, none⟩)), (2, .int .i64 (opI d)), (3, .slice q' v.length c'), (5, .pointer (some ⟨m.length + 0, 0, none⟩)), (9, .int .i64 (mxc F k)), (10, .int .i64 (k + 1 : Nat)), (11, .pointer (some ⟨m.length + 1, 0, none⟩)), (12, .pointer (some ⟨m.length + 2, 0, none⟩))]
   [(0, .pointer (some ⟨p, 0, none⟩)), (2, .int .i64 (opI d)), (3, .slice q' v.length c'), (5, .pointer (some ⟨m.length + 0, 0, none⟩)), (9, .int .i64 (max (mxc F k) (v.getD s1 0 + v.getD s2 0))), (10, .int .i64 (k + 1 : Nat))] [0, 2, 3, 5, 9, 10, 11, 12] [[], [], [], [0], [0], [0], [], [0], [0], [0], [], [5, 1, 0], [10, 0], [0], [], [], [0], [0], [0], [], [0], [0], [0], [], [5, 1, 0, 12], [10, 0], [0], [13, 0], [27, 0], [0, 4, 28, 27, 26, 25, 24, 23, 22, 21, 20, 19, 18, 17, 16, 15, 14, 13, 12, 11, 10, 9, 8, 7, 6, 5, 4, 3, 2, 1, 0]] (by repeat (first | exact trivial | (refine And.intro rfl ?_))) rfl (by decide +kernel) ?_ ?_
  ·(repeat (first|((with_reducible refine Step.id ?_);first|((with_reducible apply Step.move);exact rfl;exact rfl)|((with_reducible apply Step.assign);exact rfl;exact rfl)|((with_reducible apply Step.load);exact rfl;((decide +kernel));exact rfl;((exact Rd.old _ (by assumption))))|((with_reducible apply Step.loadL (n := 4));exact rfl;((decide +kernel));((decide +kernel));exact rfl;((exact RdL.new rfl rfl));exact rfl;exact rfl)|((with_reducible apply Step.ix1);exact rfl;((assumption));exact rfl;((decide +kernel));exact rfl;((omega)))|((with_reducible apply Step.field (k := 2));exact rfl;((decide +kernel));exact rfl)|((with_reducible apply Step.field (k := 3));exact rfl;((decide +kernel));exact rfl)|((with_reducible apply Step.add);exact rfl;exact rfl;((omega));exact rfl)|((with_reducible apply Step.max);exact rfl;exact rfl;exact rfl)|((with_reducible apply Step.nilp);exact rfl;exact rfl)|((with_reducible apply Step.callR fit);exact rfl;exact Tryd.func36;exact rfl;exact rfl;exact (n1 _))|((with_reducible apply Step.callR fit);exact rfl;exact Tryd.func36;exact rfl;exact rfl;exact (n2 _)))|(apply AWf.cons;exact rfl)|exact ⟨put_same _ _ _, rfl⟩|(with_reducible apply AWf.nil)))
   exact (by repeat (first | exact trivial | (refine And.intro rfl ?_)))
  intro t' ht'
  refine InBlk.n ?_
  refine Then.n ?_
  refine AW.weak ht' ?_
  (repeat (first|(with_reducible refine AWo.cons ?_)|((with_reducible refine Step.id ?_);first|((with_reducible apply Step.move);exact rfl;exact rfl)|((with_reducible apply Step.assign);exact rfl;exact rfl)|((with_reducible apply Step.add);exact rfl;exact rfl;((omega));exact rfl))|(with_reducible first|apply AWo.nil|apply Then.n|apply AW.regL)))
  exact ⟨_, [(0, .pointer (some ⟨p, 0, none⟩)), (2, .int .i64 (opI d)), (3, .slice q' v.length c'), (5, .pointer (some ⟨m.length + 0, 0, none⟩)), (9, .int .i64 (max (mxc F k) (v.getD s1 0 + v.getD s2 0))), (10, .int .i64 (k + 1 + 1 : Nat))], [some { cells := r.rc.cells }], by omega, (Back.trim rfl rfl (by repeat (first | exact CellsOk.nil | refine CellsOk.cons (by assumption) ?_)) (by repeat (first | exact trivial | (refine And.intro ⟨rfl, by (first | exact Low.rid (by assumption) (by simp) | exact .int _ _ | exact .ptr _ _ (by first | (simp; done) | omega | (simp; omega)))⟩ ?_)))), k + 1 + 1, rfl, by omega, by omega, rfl, by rw [Nat.add_sub_cancel, eM, eF]⟩
 ·obtain rfl : i = n := by omega
  (repeat (first|(with_reducible refine AWo.cons ?_)|((with_reducible refine Step.id ?_);first|((with_reducible apply Step.move);exact rfl;exact rfl)|((with_reducible apply Step.assign);exact rfl;exact rfl)|((with_reducible apply Step.loadL (n := 4));exact rfl;((decide +kernel));((decide +kernel));exact rfl;((exact RdL.new rfl rfl));exact rfl;exact rfl)|((with_reducible apply Step.lss);exact rfl;exact rfl;exact rfl)|((with_reducible apply Step.callR fit);exact rfl;exact Tryd.func53;exact rfl;exact rfl;exact (hL _)))|(with_reducible first|apply AWo.nil|apply AW.seq|apply Then.n|apply AW.regL|apply AW.exit|apply InBlk.hit|apply Then.e)|((with_reducible apply AW.condF);exact rfl;(((simp only [zq1, zq2, zq3, zq4, zq5, zq6];first|assumption|omega))))))
  (refine AW.retD (l := [(8, _)]) (by repeat (first | exact trivial | (refine And.intro ⟨rfl, by (exact .int _ _)⟩ ?_))) ?_; (repeat (first | refine Then.r ?_ | refine InBlk.r ?_)))
  exact ⟨_, rfl, rfl, rfl⟩
theorem bl23 {a b c d : Int} : abuild Tryd.prog 47 [(0, .int .i64 a), (1, .int .i64 b), (2, .int .i64 c), (3, .int .i64 d)] = some (.agg #[.int .i64 a, .int .i64 b, .int .i64 c, .int .i64 d]) := by kernel_rfl
set_option maxHeartbeats 8000000 in
set_option maxRecDepth 100000 in
theorem each_ok {S : Type} {m0 : AM} (Mm : S → AM) (step : R4 → S → S) (I : (R4 → Prop) → S → Prop) {p : Nat} {B : Brd} {K : List Kd} {F : FuncId} {fn : Func} {b : Code} {caps : Array Value} (hf : Tryd.prog.funcs[F]? = some fn) (hb : fn.body = some b)
  (hB : ∀ s, BoardAt (Mm s) p B K) (hg : goodB B K = true) (hE : EachI step (bw B) (bh B) I)
  (hF : ∀ i j y x s T, i < bw B → j < bh B → y + (j + 1) ≤ bh B → x + (i + 1) ≤ bw B → I (done (bw B) (bh B) i j y x) s →
   ACall Tryd.prog F (#[(R4.mk x y (i + 1) (j + 1)).rc.v, .int .i64 ((R4.mk x y (i + 1) (j + 1)).at (bw B) (bh B) : Nat)] ++ caps) (Mm s ++ T) (Ret (.tuple #[]) (Mm (step ⟨x, y, i + 1, j + 1⟩ s) ++ T)))
  (hlen : ∀ s, (Mm s).length = m0.length) (hG : ∀ s s' j b, (Mm s')[j]? = some (some b) → (j < (Mm s).length ∧ (Mm s)[j]? = some (some b)) ∨ (isMapK b.kind = false ∧ ∀ v ∈ b.cells, Ren rid m0.length v v))
  (hlow : Low m0.length (.func (.func F) #[] caps)) (s0 : S) (hs0 : I (fun _ => False) s0) :
  ACall Tryd.prog 50 #[.pointer (some ⟨p, 0, none⟩), .func (.func F) #[] caps] (Mm s0) (Ret (.tuple #[]) (Mm (fW step (bw B) (bh B) (bw B) s0))) := by
 have hgb : boardB B = true := by simp only [goodB, Bool.and_eq_true] at hg; exact hg.1
 have hin := good_in hgb
 have hp : p < m0.length := by rw [← hlen s0]; exact (hB s0).lt
 have wp : Low m0.length (.pointer (some ⟨p, 0, none⟩)) := Low.ptr hp
 have tw := fun s => (hB s).w
 have th := fun s => (hB s).h
 have hs : I (done (bw B) (bh B) 0 0 0 0) s0 := by rw [done_start]; exact hs0
 generalize hw : bw B = w at *
 generalize hh : bh B = h at *
 refine ACall.start Tryd.func50 rfl rfl ?_
 (repeat (first|(with_reducible refine AWo.cons ?_)|((with_reducible refine Step.id ?_);((with_reducible apply Step.assign);exact rfl;exact rfl))|(with_reducible first|apply AWo.nil|apply AW.seq|apply Then.n|apply AW.regL|apply AW.block)))
 refine AW.loopW (fun n t M => ∃ i : Nat, n = w - i ∧ i ≤ w ∧ M = Mm (fW step w h i s0) ∧ t = fr [(0, .pointer (some ⟨p, 0, none⟩)), (1, .func (.func F) #[] caps), (4, .int .i64 (i + 1 : Nat))])
  ⟨_, _, (by repeat (first | exact trivial | (refine And.intro rfl ?_))), 0, rfl, Nat.zero_le _, by rw [List.append_nil]; rfl, rfl⟩ ?_
 rintro n t M ⟨i, rfl, hi, rfl, rfl⟩
 have H1 := hE.fw hs i hi
 rcases Nat.lt_or_ge i w with hiw | hiw
 ·(repeat (first|(with_reducible refine AWo.cons ?_)|((with_reducible refine Step.id ?_);first|((with_reducible apply Step.move);exact rfl;exact rfl)|((with_reducible apply Step.assign);exact rfl;exact rfl)|((with_reducible apply Step.load);exact rfl;((decide +kernel));exact rfl;((exact tw _)))|((with_reducible apply Step.field (k := 2));exact rfl;((decide +kernel));exact rfl)|((with_reducible apply Step.leq);exact rfl;exact rfl;exact rfl)|((with_reducible apply Step.nilp);exact rfl;exact rfl))|(with_reducible first|apply AWo.nil|apply AW.seq|apply Then.n|apply AW.regL|apply AW.block|apply AW.skip)|((with_reducible apply AW.condT);exact rfl;(((simp only [zq1, zq2, zq3, zq4, zq5, zq6];first|assumption|omega))))))
  refine AW.loopW (fun n t M => ∃ j : Nat, n = h - j ∧ j ≤ h ∧ M = Mm (fH step w h (i + 1) j (fW step w h i s0)) ∧ t = fr [(0, .pointer (some ⟨p, 0, none⟩)), (1, .func (.func F) #[] caps), (4, .int .i64 (i + 1 : Nat)), (5, .int .i64 (j + 1 : Nat))])
   ⟨_, _, (by repeat (first | exact trivial | (refine And.intro rfl ?_))), 0, rfl, Nat.zero_le _, rfl, rfl⟩ ?_
  rintro n t M ⟨j, rfl, hj, rfl, rfl⟩
  have H2 := hE.fh hiw H1 j hj
  rcases Nat.lt_or_ge j h with hjh | hjh
  ·(repeat (first|(with_reducible refine AWo.cons ?_)|((with_reducible refine Step.id ?_);first|((with_reducible apply Step.move);exact rfl;exact rfl)|((with_reducible apply Step.assign);exact rfl;exact rfl)|((with_reducible apply Step.load);exact rfl;((decide +kernel));exact rfl;((exact th _)))|((with_reducible apply Step.field (k := 3));exact rfl;((decide +kernel));exact rfl)|((with_reducible apply Step.leq);exact rfl;exact rfl;exact rfl)|((with_reducible apply Step.nilp);exact rfl;exact rfl))|(with_reducible first|apply AWo.nil|apply AW.seq|apply Then.n|apply AW.regL|apply AW.block|apply AW.skip)|((with_reducible apply AW.condT);exact rfl;(((simp only [zq1, zq2, zq3, zq4, zq5, zq6];first|assumption|omega))))))
   refine AW.loopW (fun n t M => ∃ y : Nat, n = h - j - y ∧ y ≤ h - j ∧ M = Mm (fY step w (i + 1) (j + 1) y (fH step w h (i + 1) j (fW step w h i s0))) ∧ t = fr [(0, .pointer (some ⟨p, 0, none⟩)), (1, .func (.func F) #[] caps), (4, .int .i64 (i + 1 : Nat)), (5, .int .i64 (j + 1 : Nat)), (6, .int .i64 (y : Nat))])
    ⟨_, _, (by repeat (first | exact trivial | (refine And.intro rfl ?_))), 0, rfl, Nat.zero_le _, rfl, rfl⟩ ?_
   rintro n t M ⟨y, rfl, hy, rfl, rfl⟩
   have H3 := hE.fy hiw hjh H2 y hy
   have e1 : (y : Int) + ((j + 1 : Nat) : Int) = ((y + (j + 1) : Nat) : Int) := by omega
   rcases Nat.lt_or_ge y (h - j) with hyh | hyh
   ·(repeat (first|(with_reducible refine AWo.cons ?_)|((with_reducible refine Step.id ?_);first|((with_reducible apply Step.move);exact rfl;exact rfl)|((with_reducible apply Step.assign);exact rfl;exact rfl)|((with_reducible apply Step.load);exact rfl;((decide +kernel));exact rfl;((exact th _)))|((with_reducible apply Step.field (k := 3));exact rfl;((decide +kernel));exact rfl)|((with_reducible apply Step.addE);exact rfl;exact rfl;((assumption));((omega));exact rfl)|((with_reducible apply Step.leq);exact rfl;exact rfl;exact rfl)|((with_reducible apply Step.nilp);exact rfl;exact rfl))|(with_reducible first|apply AWo.nil|apply AW.seq|apply Then.n|apply AW.regL|apply AW.block|apply AW.skip)|((with_reducible apply AW.condT);exact rfl;(((simp only [zq1, zq2, zq3, zq4, zq5, zq6];first|assumption|omega))))))
    refine AW.loopW (fun n t M => ∃ x : Nat, n = w - i - x ∧ x ≤ w - i ∧ M = Mm (fX step y (i + 1) (j + 1) x (fY step w (i + 1) (j + 1) y (fH step w h (i + 1) j (fW step w h i s0)))) ∧ t = fr [(0, .pointer (some ⟨p, 0, none⟩)), (1, .func (.func F) #[] caps), (4, .int .i64 (i + 1 : Nat)), (5, .int .i64 (j + 1 : Nat)), (6, .int .i64 (y : Nat)), (7, .int .i64 (x : Nat))])
     ⟨_, _, (by repeat (first | exact trivial | (refine And.intro rfl ?_))), 0, rfl, Nat.zero_le _, rfl, rfl⟩ ?_
    rintro n t M ⟨x, rfl, hx, rfl, rfl⟩
    have e2 : (x : Int) + ((i + 1 : Nat) : Int) = ((x + (i + 1) : Nat) : Int) := by omega
    rcases Nat.lt_or_ge x (w - i) with hxw | hxw
    ·have H4 := hE.fx hiw hjh (by omega) H3 x (by omega)
     have hFi := fun T => hF i j y x _ T hiw hjh (by omega) (by omega) H4
     have hN := fun T => num_ok (m := T) (w := w) (h := h) (r := ⟨x, y, i + 1, j + 1⟩) (by omega) (by omega) (step_ok hiw hjh (by omega) (by omega))
     have hst : fX step y (i + 1) (j + 1) (x + 1) (fY step w (i + 1) (j + 1) y (fH step w h (i + 1) j (fW step w h i s0))) = step ⟨x, y, i + 1, j + 1⟩ (fX step y (i + 1) (j + 1) x (fY step w (i + 1) (j + 1) y (fH step w h (i + 1) j (fW step w h i s0)))) := rfl
     generalize fX step y (i + 1) (j + 1) x (fY step w (i + 1) (j + 1) y (fH step w h (i + 1) j (fW step w h i s0))) = s at *
     have twi := tw s
     have thi := th s
     refine AW.rebase ?_
     have hlm := hlen s
     change ∀ T, ACall Tryd.prog F (#[.agg ([.int .i64 (x : Nat), .int .i64 (y : Nat), .int .i64 (i + 1 : Nat), .int .i64 (j + 1 : Nat)] : List Value).toArray, .int .i64 ((R4.mk x y (i + 1) (j + 1)).at w h : Nat)] ++ caps) (Mm s ++ T) _ at hFi
     change ∀ T, ACall Tryd.prog 36 #[.int .i64 (w : Nat), .int .i64 (h : Nat), .agg ([.int .i64 (x : Nat), .int .i64 (y : Nat), .int .i64 (i + 1 : Nat), .int .i64 (j + 1 : Nat)] : List Value).toArray] T _ at hN
     have r8 : ∀ T : AM, RdL (Mm s ++ (some { cells := [.int .i64 (x : Nat), .int .i64 (y : Nat), .int .i64 (i + 1 : Nat), .int .i64 (j + 1 : Nat)] } :: T)) ((Mm s).length + 0) 0 [.int .i64 (x : Nat), .int .i64 (y : Nat), .int .i64 (i + 1 : Nat), .int .i64 (j + 1 : Nat)] := fun T => RdL.new rfl rfl
     (repeat (first|(with_reducible refine AWo.cons ?_)|((with_reducible refine Step.id ?_);first|((with_reducible apply Step.move);exact rfl;exact rfl)|((with_reducible apply Step.load);exact rfl;((decide +kernel));exact rfl;((exact Rd.old _ (by assumption))))|((with_reducible apply Step.field (k := 2));exact rfl;((decide +kernel));exact rfl)|((with_reducible apply Step.addE);exact rfl;exact rfl;((assumption));((omega));exact rfl)|((with_reducible apply Step.leq);exact rfl;exact rfl;exact rfl)|((with_reducible apply Step.nilp);exact rfl;exact rfl)|((with_reducible apply Step.alloc 0);exact rfl;exact ze23;exact rfl;((first|(simp only [zq7, zq8, zq9, zq0, iv_set, bv_set, iv_rep, bv_rep] <;> rfl)|rfl)))|((with_reducible apply Step.storeA (k := 0) (n := 4));exact rfl;exact rfl;exact rfl;exact rfl;((decide +kernel));exact rfl;((kernel_rfl));exact rfl;((first|(simp only [zq7, zq8, zq9, zq0, iv_set, bv_set, iv_rep, bv_rep] <;> rfl)|rfl)))|((with_reducible apply Step.build);exact rfl;exact bl23;exact rfl))|(with_reducible first|apply AWo.nil|apply AW.seq|apply Then.n)|((fail_if_success (with_reducible refine AW.atL (id := 13) ?_));(with_reducible apply AW.regL))|(with_reducible first|apply AW.block|apply AW.skip)|((with_reducible apply AW.condT);exact rfl;(((simp only [zq1, zq2, zq3, zq4, zq5, zq6];first|assumption|omega))))))
     refine AW.flatM fit [(0, .pointer (some ⟨p, 0, none⟩)), (1, .func (.func F) #[] caps), (4, .int .i64 (i + 1 : Nat)), (5, .int .i64 (j + 1 : Nat)), (6, .int .i64 (y : Nat)), (7, .int .i64 (x : Nat)), (8, .pointer (some ⟨(Mm s).length + 0, 0, none⟩))] [0, 1, 4, 5, 6, 7, 8] [[], [], [], [0], [0], [0], [], [0], [0], [0], [], [5, 1, 0], [11, 10, 0, 0]] (by repeat (first | exact trivial | (refine And.intro rfl ?_))) rfl (by decide +kernel) ?_
     (repeat (first|((with_reducible refine Step.id ?_);first|((with_reducible apply Step.move);exact rfl;exact rfl)|((with_reducible apply Step.load);exact rfl;((decide +kernel));exact rfl;((exact Rd.old _ (by assumption))))|((with_reducible apply Step.loadL (n := 4));exact rfl;((decide +kernel));((decide +kernel));exact rfl;((exact RdL.new rfl rfl));exact rfl;exact rfl)|((with_reducible apply Step.field (k := 2));exact rfl;((decide +kernel));exact rfl)|((with_reducible apply Step.field (k := 3));exact rfl;((decide +kernel));exact rfl)|((with_reducible apply Step.nilp);exact rfl;exact rfl)|((with_reducible apply Step.callR fit);exact rfl;exact Tryd.func36;exact rfl;exact rfl;exact (hN _)))|(apply AWfL.cons;exact rfl)|(with_reducible apply AWfL.last)|exact ⟨put_same _ _ _, rfl⟩))
     ((with_reducible apply Step.callVM fit);exact rfl;exact rfl;exact hf;exact hb;exact rfl;exact (hFi _))
     have hls := hlen (step ⟨x, y, i + 1, j + 1⟩ s)
     intro t2 ht2
     refine InBlk.n ?_
     refine Then.n ?_
     refine AW.weak ht2 ?_
     refine AW.gc (Gc.cut (l := [(0, .pointer (some ⟨p, 0, none⟩)), (1, .func (.func F) #[] caps), (4, .int .i64 (i + 1 : Nat)), (5, .int .i64 (j + 1 : Nat)), (6, .int .i64 (y : Nat)), (7, .int .i64 (x : Nat))]) (by rw [hlm, hls]; exact Nat.le_refl _) (by intro j b hj; rw [hls]; exact hG s _ j b hj) (by rw [hls]; exact (by repeat (first | exact trivial | (refine And.intro ⟨rfl, by (first | exact Low.rid (by assumption) (by simp) | exact .int _ _)⟩ ?_))))) ?_
     (repeat (first|(with_reducible refine AWo.cons ?_)|((with_reducible refine Step.id ?_);first|((with_reducible apply Step.move);exact rfl;exact rfl)|((with_reducible apply Step.assign);exact rfl;exact rfl)|((with_reducible apply Step.add);exact rfl;exact rfl;((omega));exact rfl))|(with_reducible first|apply AWo.nil|apply Then.n|apply AW.regL)))
     exact ⟨_, _, by omega, (by repeat (first | exact trivial | (refine And.intro rfl ?_))), x + 1, rfl, by omega, by rw [hst], rfl⟩
    ·obtain rfl : x = w - i := by omega
     (repeat (first|(with_reducible refine AWo.cons ?_)|((with_reducible refine Step.id ?_);first|((with_reducible apply Step.move);exact rfl;exact rfl)|((with_reducible apply Step.assign);exact rfl;exact rfl)|((with_reducible apply Step.load);exact rfl;((decide +kernel));exact rfl;((exact tw _)))|((with_reducible apply Step.field (k := 2));exact rfl;((decide +kernel));exact rfl)|((with_reducible apply Step.addE);exact rfl;exact rfl;((assumption));((omega));exact rfl)|((with_reducible apply Step.add);exact rfl;exact rfl;((omega));exact rfl)|((with_reducible apply Step.leq);exact rfl;exact rfl;exact rfl)|((with_reducible apply Step.nilp);exact rfl;exact rfl))|(with_reducible first|apply AWo.nil|apply AW.seq|apply Then.n|apply AW.regL|apply AW.exit|apply InBlk.n|apply InBlk.hit|apply Then.e)|((with_reducible apply AW.condF);exact rfl;(((simp only [zq1, zq2, zq3, zq4, zq5, zq6];first|assumption|omega))))))
     refine ⟨_, _, ?_, (by repeat (first | exact trivial | (refine And.intro rfl ?_))), y + 1, rfl, by omega, ?_, rfl⟩
     ·omega
     ·rw [fY, show w + 1 - (i + 1) = w - i by omega]
   ·obtain rfl : y = h - j := by omega
    (repeat (first|(with_reducible refine AWo.cons ?_)|((with_reducible refine Step.id ?_);first|((with_reducible apply Step.move);exact rfl;exact rfl)|((with_reducible apply Step.assign);exact rfl;exact rfl)|((with_reducible apply Step.load);exact rfl;((decide +kernel));exact rfl;((exact th _)))|((with_reducible apply Step.field (k := 3));exact rfl;((decide +kernel));exact rfl)|((with_reducible apply Step.addE);exact rfl;exact rfl;((assumption));((omega));exact rfl)|((with_reducible apply Step.add);exact rfl;exact rfl;((omega));exact rfl)|((with_reducible apply Step.leq);exact rfl;exact rfl;exact rfl)|((with_reducible apply Step.nilp);exact rfl;exact rfl))|(with_reducible first|apply AWo.nil|apply AW.seq|apply Then.n|apply AW.regL|apply AW.exit|apply InBlk.n|apply InBlk.hit|apply Then.e)|((with_reducible apply AW.condF);exact rfl;(((simp only [zq1, zq2, zq3, zq4, zq5, zq6];first|assumption|omega))))))
    refine ⟨_, _, ?_, (by repeat (first | exact trivial | (refine And.intro rfl ?_))), j + 1, rfl, by omega, ?_, rfl⟩
    ·omega
    ·rw [fH, show h + 1 - (j + 1) = h - j by omega]
  ·obtain rfl : j = h := by omega
   (repeat (first|(with_reducible refine AWo.cons ?_)|((with_reducible refine Step.id ?_);first|((with_reducible apply Step.move);exact rfl;exact rfl)|((with_reducible apply Step.assign);exact rfl;exact rfl)|((with_reducible apply Step.load);exact rfl;((decide +kernel));exact rfl;((exact th _)))|((with_reducible apply Step.field (k := 3));exact rfl;((decide +kernel));exact rfl)|((with_reducible apply Step.add);exact rfl;exact rfl;((omega));exact rfl)|((with_reducible apply Step.leq);exact rfl;exact rfl;exact rfl)|((with_reducible apply Step.nilp);exact rfl;exact rfl))|(with_reducible first|apply AWo.nil|apply AW.seq|apply Then.n|apply AW.regL|apply AW.exit|apply InBlk.n|apply InBlk.hit|apply Then.e)|((with_reducible apply AW.condF);exact rfl;(((simp only [zq1, zq2, zq3, zq4, zq5, zq6];first|assumption|omega))))))
   exact ⟨_, _, by omega, (by repeat (first | exact trivial | (refine And.intro rfl ?_))), i + 1, rfl, by omega, rfl, rfl⟩
 ·obtain rfl : i = w := by omega
  (repeat (first|(with_reducible refine AWo.cons ?_)|((with_reducible refine Step.id ?_);first|((with_reducible apply Step.move);exact rfl;exact rfl)|((with_reducible apply Step.load);exact rfl;((decide +kernel));exact rfl;((exact tw _)))|((with_reducible apply Step.field (k := 2));exact rfl;((decide +kernel));exact rfl)|((with_reducible apply Step.leq);exact rfl;exact rfl;exact rfl)|((with_reducible apply Step.nilp);exact rfl;exact rfl))|(with_reducible first|apply AWo.nil|apply AW.seq|apply Then.n|apply AW.regL|apply AW.exit|apply InBlk.hit|apply Then.e)|((with_reducible apply AW.condF);exact rfl;(((simp only [zq1, zq2, zq3, zq4, zq5, zq6];first|assumption|omega))))))
  exact ⟨_, rfl, rfl, rfl⟩
theorem Fair.set {v : List Int} (h : Fair v) {n : Nat} {z : Int} (hz : 0 ≤ z ∧ z ≤ 1000000000000) : Fair (v.set n z) := by
 intro i
 rw [List.getD_eq_getElem?_getD]
 by_cases e : n = i
 ·subst e
  rcases Nat.lt_or_ge n v.length with hl | hl
  ·rw [List.getElem?_set_self hl]; exact hz
  ·rw [List.getElem?_eq_none (by simpa using hl)]; simp
 ·rw [List.getElem?_set_ne e]
  have := h i
  rwa [List.getD_eq_getElem?_getD] at this
theorem cutM_set {w h : Nat} (hw : w ≤ 16) (hh : h ≤ 16) {r : R4} (hr : r.ok w h) {v : List Int} (hl : v.length = total w h) (z : Int) (d : Bool) : cutM (tg w h (v.set (r.at w h) z)) r d = cutM (tg w h v) r d := by
 refine cutM_congr hr fun r' h1 h2 => ?_
 rw [tg_set hw hh hr h1 hl, if_neg]
 rintro rfl
 omega
theorem leafM_in {B : Brd} {K : List Kd} (hg : goodB B K = true) (r : R4) : 0 ≤ leafM B K r ∧ leafM B K r ≤ 1000000 := by
 simp only [goodB, Bool.and_eq_true] at hg
 exact leafN_in hg.2 r _ (Nat.le_refl _)
theorem V_in {B : Brd} {K : List Kd} (hg : goodB B K = true) {r : R4} (hr : r.ok (bw B) (bh B)) : 0 ≤ V (leafM B K) r ∧ V (leafM B K) r ≤ 256000000 := by
 have hgb : boardB B = true := by simp only [goodB, Bool.and_eq_true] at hg; exact hg.1
 have hin := good_in hgb
 refine ⟨V_nonneg (fun r => (leafM_in hg r).1) hr, ?_⟩
 have h1 := V_le (w := bw B) (h := bh B) (leaf := leafM B K) (c := 1000000) (fun r hr => by
  have := (leafM_in hg r).2
  have h2 : 1 ≤ r.a * r.b := Nat.mul_le_mul hr.1 hr.2.1
  omega) (by omega) r hr
 have h2 := area_le hin.2.2.2 hin.2.1 hr
 omega
theorem TabI.fair {val : R4 → Int} {w h : Nat} {D : R4 → Prop} {v : List Int} (H : TabI val w h D v) (hv : ∀ r, D r → 0 ≤ val r ∧ val r ≤ 1000000000000) : Fair v := H.all (p := fun x => 0 ≤ x ∧ x ≤ 1000000000000) (by omega) hv
def MI (m : AM) (q : Nat) (v : List Int) : AM := m.set q (some { cells := iv v })
section
variable {m : AM} {q : Nat} {v : List Int}
theorem MI.len : (MI m q v).length = m.length := by simp [MI]
theorem MI.at (hq : q < m.length) : (MI m q v)[q]? = some (some { cells := iv v }) := by unfold MI; exact List.getElem?_set_self hq
theorem MI.ne {a : Nat} (h : a ≠ q) : (MI m q v)[a]? = m[a]? := by unfold MI; exact List.getElem?_set_ne (fun e => h e.symm)
theorem MI.set (hq : q < m.length) (T : AM) (v' : List Int) : (MI m q v ++ T).set q (some { cells := iv v' }) = MI m q v' ++ T := by
 unfold MI
 rw [List.set_append_left _ _ (by simpa using hq), List.set_set]
theorem MI.rd {a o : Nat} {x : Value} (h : a ≠ q) (hr : Rd m a o x) : Rd (MI m q v) a o x := by
 obtain ⟨b, h1, h2⟩ := hr
 exact ⟨b, by rw [MI.ne h]; exact h1, h2⟩
theorem MI.ints (hq : q < m.length) : Ints (MI m q v) (.slice (some ⟨q, 0, none⟩) v.length v.length) v := ints_at (MI.at hq) rfl _ rfl
theorem MI.flat (hq : q < m.length) (v v' : List Int) (n : Nat) (j : Nat) (b : Blk) (h : (MI m q v')[j]? = some (some b)) : (j < (MI m q v).length ∧ (MI m q v)[j]? = some (some b)) ∨ (isMapK b.kind = false ∧ ∀ x ∈ b.cells, Ren rid n x x) := by
 by_cases e : j = q
 ·subst e
  rw [MI.at hq] at h
  simp only [Option.some.injEq] at h
  subst h
  exact .inr ⟨rfl, fun x hx => Ren.of_g0 (g0_iv _ x hx)⟩
 ·rw [MI.ne e] at h
  exact .inl ⟨by rw [MI.len]; exact (List.getElem?_eq_some_iff.1 h).1, by rw [MI.ne e]; exact h⟩
end
def vsF (leaf : R4 → Int) (w h : Nat) (r : R4) (v : List Int) : Nat → List Int
 | 0 => v.set (r.at w h) (leaf r)
 | k + 1 => (vsF leaf w h r v k).set (r.at w h) (max (tg w h (vsF leaf w h r v k) r) (cutM (tg w h (vsF leaf w h r v k)) r (k == 0)))
theorem vsF_len (leaf : R4 → Int) (w h : Nat) (r : R4) (v : List Int) : ∀ k, (vsF leaf w h r v k).length = v.length
 | 0 => by simp [vsF]
 | k + 1 => by simp [vsF, vsF_len leaf w h r v k]
theorem vsF_two {leaf : R4 → Int} {w h : Nat} (hw : w ≤ 16) (hh : h ≤ 16) {r : R4} (hr : r.ok w h) {v : List Int} (hl : v.length = total w h) :
  vsF leaf w h r v 1 = v.set (r.at w h) (max (leaf r) (cutM (tg w h v) r true)) ∧ vsF leaf w h r v 2 = bstep leaf w h r v := by
 have h1 : vsF leaf w h r v 1 = v.set (r.at w h) (max (leaf r) (cutM (tg w h v) r true)) := by
  show (v.set (r.at w h) (leaf r)).set (r.at w h) _ = _
  rw [List.set_set]
  congr 2
  ·show tg w h (v.set (r.at w h) (leaf r)) r = _
   rw [tg_set hw hh hr hr hl, if_pos rfl]
  ·exact cutM_set hw hh hr hl _ true
 refine ⟨h1, ?_⟩
 show (vsF leaf w h r v 1).set (r.at w h) (max (tg w h (vsF leaf w h r v 1) r) (cutM (tg w h (vsF leaf w h r v 1)) r (1 == 0))) = _
 rw [h1, List.set_set]
 unfold bstep
 congr 2
 ·rw [tg_set hw hh hr hr hl, if_pos rfl]
 ·exact cutM_set hw hh hr hl _ false
set_option maxHeartbeats 8000000 in
set_option maxRecDepth 100000 in
theorem bestc_ok {m1 m T : AM} {p q a1 a2 : Nat} {B : Brd} {K : List Kd} (hm : ∃ N, m = m1 ++ N) (hB : BoardAt m1 p B K) (hg : goodB B K = true) (hq1 : m1.length ≤ q) (hq : q < m.length)
  (h1 : Rd m a1 0 (.pointer (some ⟨p, 0, none⟩))) (h2 : Rd m a2 0 (.slice (some ⟨q, 0, none⟩) (total (bw B) (bh B)) (total (bw B) (bh B)))) (n1 : a1 ≠ q) (n2 : a2 ≠ q)
  {i j y x : Nat} (b1 : i < bw B) (b2 : j < bh B) (b3 : y + (j + 1) ≤ bh B) (b4 : x + (i + 1) ≤ bw B) {v : List Int} (hI : TabI (V (leafM B K)) (bw B) (bh B) (done (bw B) (bh B) i j y x) v) :
  ACall Tryd.prog 64 #[(R4.mk x y (i + 1) (j + 1)).rc.v, .int .i64 ((R4.mk x y (i + 1) (j + 1)).at (bw B) (bh B) : Nat), .pointer (some ⟨a1, 0, none⟩), .pointer (some ⟨a2, 0, none⟩)] (MI m q v ++ T)
   (Ret (.tuple #[]) (MI m q (bstep (leafM B K) (bw B) (bh B) ⟨x, y, i + 1, j + 1⟩ v) ++ T)) := by
 have hgb : boardB B = true := by simp only [goodB, Bool.and_eq_true] at hg; exact hg.1
 have hin := good_in hgb
 have hr := step_ok b1 b2 b3 b4
 have hat := at_lt hin.2.2.2 hin.2.1 hr
 have hBv : ∀ u T', BoardAt (MI m q u ++ T') p B K := fun u T' => by
  obtain ⟨N, rfl⟩ := hm
  obtain ⟨N', hN'⟩ := set_high (N := N) hq1 (some { cells := iv u })
  unfold MI
  rw [hN', List.append_assoc]
  exact hB.old _
 have hfa : ∀ r, done (bw B) (bh B) i j y x r → 0 ≤ V (leafM B K) r ∧ V (leafM B K) r ≤ 1000000000000 := fun r hd => by have := V_in hg hd.1; omega
 have hVr := V_in hg hr
 have hlf := leafM_in hg ⟨x, y, i + 1, j + 1⟩
 have hc1 := fun d => (hI.cut hr d).symm
 have hcv := fun d => cut_le_V (leaf := leafM B K) hr d
 have hvl := hI.len
 have hF := hI.fair hfa
 obtain ⟨hv1, hv2⟩ := vsF_two (leaf := leafM B K) hin.2.2.2 hin.2.1 hr hvl
 have hvs := vsF_len (leafM B K) (bw B) (bh B) ⟨x, y, i + 1, j + 1⟩ v
 have hF0 : Fair (vsF (leafM B K) (bw B) (bh B) ⟨x, y, i + 1, j + 1⟩ v 0) := hF.set (by omega)
 have hF1 : Fair (vsF (leafM B K) (bw B) (bh B) ⟨x, y, i + 1, j + 1⟩ v 1) := by
  rw [hv1]
  have e1 := hc1 true
  have e2 := hcv true
  exact hF.set (by omega)
 rw [← hv2]
 have hL := fun u T' => leaf_ok (hBv u T') hg hr
 have hC := fun u T' d (hu : u.length = total (bw B) (bh B)) (hf : Fair u) => cuts_ok (m := MI m q u ++ T') (hBv u T') hg hr d (by have := (MI.ints (m := m) (v := u) hq); rw [hu] at this; exact this.old T') hu hf
 have vs0 : vsF (leafM B K) (bw B) (bh B) ⟨x, y, i + 1, j + 1⟩ v 0 = v.set ((R4.mk x y (i + 1) (j + 1)).at (bw B) (bh B)) (leafM B K ⟨x, y, i + 1, j + 1⟩) := rfl
 have vsS : ∀ k, vsF (leafM B K) (bw B) (bh B) ⟨x, y, i + 1, j + 1⟩ v (k + 1) = (vsF (leafM B K) (bw B) (bh B) ⟨x, y, i + 1, j + 1⟩ v k).set ((R4.mk x y (i + 1) (j + 1)).at (bw B) (bh B)) (max ((vsF (leafM B K) (bw B) (bh B) ⟨x, y, i + 1, j + 1⟩ v k).getD ((R4.mk x y (i + 1) (j + 1)).at (bw B) (bh B)) 0) (cutM (tg (bw B) (bh B) (vsF (leafM B K) (bw B) (bh B) ⟨x, y, i + 1, j + 1⟩ v k)) ⟨x, y, i + 1, j + 1⟩ (k == 0))) := fun k => rfl
 clear hv1 hv2 hc1 hcv hfa hI hVr hlf hBv
 have r4 : ∀ (M : AM) (T' : AM), RdL (M ++ (some { cells := (R4.mk x y (i + 1) (j + 1)).rc.cells } :: T')) (M.length + 0) 0 (R4.mk x y (i + 1) (j + 1)).rc.cells := fun M T' => RdL.new rfl rfl
 change ∀ u T', ACall Tryd.prog 52 #[_, .agg (R4.mk x y (i + 1) (j + 1)).rc.cells.toArray] _ _ at hL
 change ∀ u T' d, _ → _ → ACall Tryd.prog 65 #[_, .agg (R4.mk x y (i + 1) (j + 1)).rc.cells.toArray, _, _] _ _ at hC
 change ACall Tryd.prog 64 #[.agg (R4.mk x y (i + 1) (j + 1)).rc.cells.toArray, _, _, _] _ _
 generalize vsF (leafM B K) (bw B) (bh B) ⟨x, y, i + 1, j + 1⟩ v = vs at *
 have hg0 : ∀ v ∈ (R4.mk x y (i + 1) (j + 1)).rc.cells, g0 v = true := fun v hv => by
  simp [Rc.cells] at hv
  rcases hv with rfl | rfl | rfl | rfl <;> rfl
 generalize hrr : (R4.mk x y (i + 1) (j + 1)).rc = rr at *
 generalize hn : (R4.mk x y (i + 1) (j + 1)).at (bw B) (bh B) = n at *
 refine ACall.start Tryd.func64 rfl rfl ?_
 have hlm : ∀ u, (MI m q u ++ T).length = (MI m q v ++ T).length := fun u => by simp [MI.len]
 have z1 : ∀ u T', Rd (MI m q u ++ T') a1 0 (.pointer (some ⟨p, 0, none⟩)) := fun u T' => (MI.rd n1 h1).old T'
 have z2 : ∀ u T', Rd (MI m q u ++ T') a2 0 (.slice (some ⟨q, 0, none⟩) (total (bw B) (bh B)) (total (bw B) (bh B))) := fun u T' => (MI.rd n2 h2).old T'
 (repeat (first|(with_reducible refine AWo.cons ?_)|((with_reducible refine Step.id ?_);((with_reducible apply Step.box 0);exact rfl;exact rfl;((kernel_rfl));exact rfl;((first|(simp only [zq7, zq8, zq9, zq0, iv_set, bv_set, iv_rep, bv_rep] <;> rfl)|rfl))))|(with_reducible apply AWo.nil)|((fail_if_success (with_reducible refine AW.atR (id := 1) ?_));(with_reducible apply AW.seq))|(with_reducible first|apply Then.n|apply AW.regL)))
 rw [List.append_assoc]
 change AW _ _ _ _ _ (MI m q v ++ (T ++ [some { cells := rr.cells }])) _
 have r5 : ∀ u, RdL (MI m q u ++ (T ++ [some { cells := rr.cells }])) ((MI m q v ++ T).length + 0) 0 rr.cells := fun u => by
  rw [← List.append_assoc, ← hlm u]; exact RdL.new rfl rfl
 have hqL : ∀ u T', (MI m q u ++ T')[q]? = some (some { cells := iv u }) := fun u T' => get_old _ (MI.at hq)
 generalize hbp : (MI m q v ++ T).length + 0 = bp at *
 have hat2 : ∀ u, u.length = total (bw B) (bh B) → n < (iv u).length := fun u hu => by rw [iv_len, hu]; exact hat
 have hmem : ∀ (u : List Int) (z : Int) (T' : AM), (MI m q u ++ T').set q (some { cells := (iv u).set n (.int .i64 z) }) = MI m q (u.set n z) ++ T' := fun u z T' => by rw [iv_set]; exact MI.set hq _ _
 have hrow : ∀ u T', u.length = total (bw B) (bh B) → Rd (MI m q u ++ T') q n (.int .i64 (u.getD n 0)) := fun u T' hu => rd_iv (hqL u T') rfl (by omega)
 refine AW.seq ?_
 refine AW.flatM fit [(1, .int .i64 (n : Nat)), (2, .pointer (some ⟨a1, 0, none⟩)), (3, .pointer (some ⟨a2, 0, none⟩)), (4, .pointer (some ⟨bp, 0, none⟩))] [1, 2, 3, 4] [[], [], [], [], [1, 0], [4, 3, 4, 3, 2, 1, 0], [0, 1, 1, 5, 4, 3, 2, 1]] (by repeat (first | exact trivial | (refine And.intro rfl ?_))) rfl (by decide +kernel) ?_
 (repeat (first|((with_reducible refine Step.id ?_);first|((with_reducible apply Step.move);exact rfl;exact rfl)|((with_reducible apply Step.load);exact rfl;((decide +kernel));exact rfl;((first|exact z1 _ _|exact z2 _ _)))|((with_reducible apply Step.loadL (n := 4));exact rfl;((decide +kernel));((decide +kernel));exact rfl;((exact r5 _));exact rfl;exact rfl)|((with_reducible apply Step.ix1z);exact rfl;((exact Sl.mk (by omega)));exact rfl;((decide +kernel));exact rfl;((omega)))|((with_reducible apply Step.callR fit);exact rfl;exact Tryd.func52;exact rfl;exact rfl;exact (hL _ _)))|(apply AWfL.cons;exact rfl)|(with_reducible apply AWfL.last)|exact ⟨put_same _ _ _, rfl⟩))
 ((with_reducible apply Step.storeC);exact rfl;exact rfl;exact (hqL v _);exact rfl;((decide +kernel));exact rfl;exact rfl;exact (hat2 v hvl))
 rw [hmem, ← vs0]
 intro t2 ht2
 refine Then.n ?_
 refine AW.weak ht2 ?_
 (repeat (first|(with_reducible refine AWo.cons ?_)|((with_reducible refine Step.id ?_);((with_reducible apply Step.assign);exact rfl;exact rfl))|(with_reducible first|apply AWo.nil|apply AW.seq|apply Then.n|apply AW.regL|apply AW.block)))
 refine AW.loopW (fun rk t M => ∃ k : Nat, rk = 2 - k ∧ k ≤ 2 ∧ M = MI m q (vs k) ++ (T ++ [some { cells := rr.cells }]) ∧ t = fr [(1, .int .i64 (n : Nat)), (2, .pointer (some ⟨a1, 0, none⟩)), (3, .pointer (some ⟨a2, 0, none⟩)), (4, .pointer (some ⟨bp, 0, none⟩)), (6, .int .i64 (2 + k : Nat))])
  ⟨_, _, (by repeat (first | exact trivial | (refine And.intro rfl ?_))), 0, rfl, Nat.zero_le _, rfl, rfl⟩ ?_
 rintro rk t M ⟨k, rfl, hk, rfl, rfl⟩
 rcases Nat.lt_or_ge k 2 with hlt | hge
 ·have hFk : Fair (vs k) := by
   rcases (show k = 0 ∨ k = 1 by omega) with rfl | rfl
   ·exact hF0
   ·exact hF1
  have hop : opI (k == 0) = ((2 + k : Nat) : Int) := by
   rcases (show k = 0 ∨ k = 1 by omega) with rfl | rfl <;> rfl
  have hlk : (vs k).length = total (bw B) (bh B) := by rw [hvs k]; exact hvl
  have hCk := fun T' => hC (vs k) T' (k == 0) hlk hFk
  rw [hop] at hCk
  have hrk := fun T' => hrow (vs k) T' hlk
  (repeat (first|(with_reducible refine AWo.cons ?_)|((with_reducible refine Step.id ?_);first|((with_reducible apply Step.move);exact rfl;exact rfl)|((with_reducible apply Step.leq);exact rfl;exact rfl;exact rfl))|(with_reducible first|apply AWo.nil|apply AW.seq|apply Then.n)|((fail_if_success (with_reducible refine AW.atL (id := 5) ?_));(with_reducible apply AW.regL))|(with_reducible first|apply AW.block|apply AW.skip)|((with_reducible apply AW.condT);exact rfl;(((simp only [zq1, zq2, zq3, zq4, zq5, zq6];first|assumption|omega))))))
  refine AW.flatM fit [(1, .int .i64 (n : Nat)), (2, .pointer (some ⟨a1, 0, none⟩)), (3, .pointer (some ⟨a2, 0, none⟩)), (4, .pointer (some ⟨bp, 0, none⟩)), (6, .int .i64 (2 + k : Nat))] [1, 2, 3, 4, 6] [[], [], [], [], [1, 0], [0], [], [], [], [], [3, 2, 1, 0], [5, 0], [11, 10, 11, 10, 9, 8, 7, 6, 5, 4, 3, 2, 1, 0], [0, 1, 2, 12, 11, 10, 9, 8, 7, 6, 5, 4, 3, 2, 1]] (by repeat (first | exact trivial | (refine And.intro rfl ?_))) rfl (by decide +kernel) ?_
  (repeat (first|((with_reducible refine Step.id ?_);first|((with_reducible apply Step.move);exact rfl;exact rfl)|((with_reducible apply Step.load);exact rfl;((decide +kernel));exact rfl;((first|exact z1 _ _|exact z2 _ _|exact hrk _)))|((with_reducible apply Step.loadL (n := 4));exact rfl;((decide +kernel));((decide +kernel));exact rfl;((exact r5 _));exact rfl;exact rfl)|((with_reducible apply Step.ix1z);exact rfl;((exact Sl.mk (by omega)));exact rfl;((decide +kernel));exact rfl;((omega)))|((with_reducible apply Step.max);exact rfl;exact rfl;exact rfl)|((with_reducible apply Step.callR fit);exact rfl;exact Tryd.func65;exact rfl;exact rfl;exact (hCk _)))|(apply AWfL.cons;exact rfl)|(with_reducible apply AWfL.last)|exact ⟨put_same _ _ _, rfl⟩))
  ((with_reducible apply Step.storeC);exact rfl;exact rfl;exact (hqL (vs k) _);exact rfl;((decide +kernel));exact rfl;exact rfl;exact (hat2 (vs k) hlk))
  rw [hmem, ← vsS k]
  intro t2 ht2
  refine InBlk.n ?_
  refine Then.n ?_
  refine AW.weak ht2 ?_
  (repeat (first|(with_reducible refine AWo.cons ?_)|((with_reducible refine Step.id ?_);first|((with_reducible apply Step.move);exact rfl;exact rfl)|((with_reducible apply Step.assign);exact rfl;exact rfl)|((with_reducible apply Step.add);exact rfl;exact rfl;((omega));exact rfl))|(with_reducible first|apply AWo.nil|apply Then.n|apply AW.regL)))
  exact ⟨_, _, by omega, (by repeat (first | exact trivial | (refine And.intro rfl ?_))), k + 1, rfl, by omega, rfl, rfl⟩
 ·obtain rfl : k = 2 := by omega
  rw [← List.append_assoc]
  refine AW.gc (Gc.cut (l := [(6, .int .i64 (2 + 2 : Nat))]) (by rw [hlm (vs 2)]; exact Nat.le_refl _) (fun j b hj => ?_) (by repeat (first | exact trivial | (refine And.intro ⟨rfl, by (exact .int _ _)⟩ ?_)))) ?_
  ·rcases Nat.lt_or_ge j (MI m q (vs 2)).length with hjl | hjl
   ·rw [List.getElem?_append_left hjl] at hj
    rcases MI.flat hq v (vs 2) (MI m q (vs 2) ++ T).length j b hj with ⟨g1, g2⟩ | g
    ·exact .inl ⟨by rw [List.length_append]; omega, get_old _ g2⟩
    ·exact .inr g
   ·have e : (MI m q (vs 2)).length = (MI m q v).length := by rw [MI.len, MI.len]
    refine .inl ⟨by rw [← hlm (vs 2)]; exact (List.getElem?_eq_some_iff.1 hj).1, ?_⟩
    rw [List.getElem?_append_right (by omega)]
    rw [List.getElem?_append_right hjl, e] at hj
    exact hj
  ·(repeat (first|(with_reducible refine AWo.cons ?_)|((with_reducible refine Step.id ?_);first|((with_reducible apply Step.move);exact rfl;exact rfl)|((with_reducible apply Step.leq);exact rfl;exact rfl;exact rfl))|(with_reducible first|apply AWo.nil|apply AW.seq|apply Then.n|apply AW.regL|apply AW.exit|apply InBlk.hit|apply Then.e)|((with_reducible apply AW.condF);exact rfl;((rfl)))))
   exact ⟨_, rfl, rfl, rfl⟩
theorem ze47 : zeroB Tryd.prog 59 = some #[.slice none 0 0] := by kernel_rfl
theorem bl23w {c d : Int} : abuild Tryd.prog 47 [(2, .int .i64 c), (3, .int .i64 d)] = some (.agg #[.int .i64 0, .int .i64 0, .int .i64 c, .int .i64 d]) := by kernel_rfl
set_option maxRecDepth 100000 in
theorem whole_ok {m : AM} {p : Nat} {B : Brd} {K : List Kd} (hB : BoardAt m p B K) : ACall Tryd.prog 37 #[.pointer (some ⟨p, 0, none⟩)] m (Ret (wholeR B).rc.v m) := by
 refine ACall.drop (Ren.aggI [_, _, _, _]) ?_
 have tw := hB.w
 have th := hB.h
 change ACall Tryd.prog 37 _ m fun v m' => v = .agg #[.int .i64 0, .int .i64 0, .int .i64 (bw B : Nat), .int .i64 (bh B : Nat)] ∧ _
 refine ACall.start Tryd.func37 rfl rfl ?_
 (repeat (first|(with_reducible refine AWo.cons ?_)|((with_reducible refine Step.id ?_);first|((with_reducible apply Step.move);exact rfl;exact rfl)|((with_reducible apply Step.load);exact rfl;((decide +kernel));exact rfl;((exact Rd.old _ (by assumption))))|((with_reducible apply Step.field (k := 2));exact rfl;((decide +kernel));exact rfl)|((with_reducible apply Step.field (k := 3));exact rfl;((decide +kernel));exact rfl)|((with_reducible apply Step.nilp);exact rfl;exact rfl)|((with_reducible apply Step.alloc 0);exact rfl;exact ze23;exact rfl;((first|(simp only [zq7, zq8, zq9, zq0, iv_set, bv_set, iv_rep, bv_rep] <;> rfl)|rfl)))|((with_reducible apply Step.storeA (k := 0) (n := 4));exact rfl;exact rfl;exact rfl;exact rfl;((decide +kernel));exact rfl;((kernel_rfl));exact rfl;((first|(simp only [zq7, zq8, zq9, zq0, iv_set, bv_set, iv_rep, bv_rep] <;> rfl)|rfl)))|((with_reducible apply Step.build);exact rfl;exact bl23w;exact rfl))|(with_reducible first|apply AWo.nil|apply AW.seq|apply Then.n|apply AW.regL)|((with_reducible apply AW.drawL fit);((decide +kernel)))))
 (refine AW.ret ?_; (repeat (first | refine Then.r ?_ | refine InBlk.r ?_)))
 exact ⟨_, ares_cell rfl rfl (by decide +kernel) (n := 4) (by decide +kernel) (RdL.new rfl rfl) rfl rfl, rfl, _, rfl⟩
theorem total_rects {B : Brd} {K : List Kd} (hg : goodB B K = true) : rectsM (bw B : Nat) (bh B : Nat) = (((total (bw B) (bh B) : Nat) : Int), 0) := by
 have hgb : boardB B = true := by simp only [goodB, Bool.and_eq_true] at hg; exact hg.1
 have hin := good_in hgb
 unfold rectsM
 rw [if_pos (by simp [sidesB]; omega)]
 unfold total t2
 simp only [Int.natCast_mul, Int.natCast_ediv, Int.natCast_add]
 rfl
set_option maxHeartbeats 8000000 in
set_option maxRecDepth 100000 in
theorem best_ok {m : AM} {p : Nat} {B : Brd} {K : List Kd} (hB : BoardAt m p B K) (hg : goodB B K = true) :
  ACall Tryd.prog 35 #[.pointer (some ⟨p, 0, none⟩)] m (More (fun m' v => ∃ q, m.length ≤ q ∧ v = .slice (some ⟨q, 0, none⟩) (total (bw B) (bh B)) (total (bw B) (bh B)) ∧ m'[q]? = some (some { cells := iv (boardT B K) })) m) := by
 have hgb : boardB B = true := by simp only [goodB, Bool.and_eq_true] at hg; exact hg.1
 have hin := good_in hgb
 have htl := total_le hin.2.2.2 hin.2.1
 have tw := hB.w
 have th := hB.h
 have hp := hB.lt
 have hR := fun m => Rects_ok (m := m) (bw B : Nat) (bh B : Nat)
 rw [total_rects hg] at hR
 refine ACall.start Tryd.func35 rfl rfl ?_
 (repeat (first|(with_reducible refine AWo.cons ?_)|((with_reducible refine Step.id ?_);first|((with_reducible apply Step.move);exact rfl;exact rfl)|((with_reducible apply Step.assign);exact rfl;exact rfl)|((with_reducible apply Step.load);exact rfl;((decide +kernel));exact rfl;((first|exact Rd.new rfl rfl|exact Rd.old _ (by assumption))))|((with_reducible apply Step.field (k := 2));exact rfl;((decide +kernel));exact rfl)|((with_reducible apply Step.field (k := 3));exact rfl;((decide +kernel));exact rfl)|((with_reducible apply Step.nilp);exact rfl;exact rfl)|((with_reducible apply Step.extract);exact rfl;exact rfl;exact rfl)|((with_reducible apply Step.fn);exact rfl;exact rfl;exact rfl)|((with_reducible apply Step.callR fit);exact rfl;exact Tryd.func49;exact rfl;exact rfl;exact (hR _))|((with_reducible apply Step.box 0);exact rfl;exact rfl;((kernel_rfl));exact rfl;((first|(simp only [zq7, zq8, zq9, zq0, iv_set, bv_set, iv_rep, bv_rep] <;> rfl)|rfl)))|((with_reducible apply Step.make1 1);exact rfl;exact rfl;exact rfl;exact el47;((omega));exact rfl;((first|(simp only [zq7, zq8, zq9, zq0, iv_set, bv_set, iv_rep, bv_rep] <;> rfl)|rfl)))|((with_reducible apply Step.alloc 2);exact rfl;exact ze47;exact rfl;((first|(simp only [zq7, zq8, zq9, zq0, iv_set, bv_set, iv_rep, bv_rep] <;> rfl)|rfl)))|((with_reducible apply Step.store (k := 2));exact rfl;exact rfl;exact rfl;exact rfl;((decide +kernel));exact rfl;exact rfl;(focus (first|omega|(simp [iv, bv];done)|(simp [iv, bv];omega)));((first|(simp only [zq7, zq8, zq9, zq0, iv_set, bv_set, iv_rep, bv_rep] <;> rfl)|rfl))))|(with_reducible first|apply AWo.nil|apply AW.seq|apply Then.n|apply AW.regL)|((with_reducible apply AW.drawL fit);((decide +kernel)))))
 have hMM : ∀ X Y Z : Option Blk, ∀ v, MI (m ++ [X, Y, Z]) (m.length + 1) v = m ++ [X, some { cells := iv v }, Z] := fun X Y Z v => by
  unfold MI
  rw [List.set_append_right _ _ (by omega), show m.length + 1 - m.length = 1 by omega]
  rfl
 have h0 := hMM (some { cells := [.pointer (some ⟨p, 0, none⟩)] }) (some { cells := iv (List.replicate (total (bw B) (bh B)) 0) }) (some { cells := [.slice (some ⟨m.length + 1, 0, none⟩) (total (bw B) (bh B)) (total (bw B) (bh B))] })
 have hE : ∀ M0 : AM, (∃ N, M0 = m ++ N) → M0.length = m.length + 3 → Rd M0 (m.length + 0) 0 (.pointer (some ⟨p, 0, none⟩)) → Rd M0 (m.length + 2) 0 (.slice (some ⟨m.length + 1, 0, none⟩) (total (bw B) (bh B)) (total (bw B) (bh B))) →
   ACall Tryd.prog 50 #[.pointer (some ⟨p, 0, none⟩), .func (.func 64) #[] #[.pointer (some ⟨m.length + 0, 0, none⟩), .pointer (some ⟨m.length + 2, 0, none⟩)]] (MI M0 (m.length + 1) (List.replicate (total (bw B) (bh B)) 0)) (Ret (.tuple #[]) (MI M0 (m.length + 1) (boardT B K))) := fun M0 hN hl r1 r2 =>
  each_ok (m0 := M0) (fun v => MI M0 (m.length + 1) v) (bstep (leafM B K) (bw B) (bh B)) (TabI (V (leafM B K)) (bw B) (bh B)) (caps := #[.pointer (some ⟨m.length + 0, 0, none⟩), .pointer (some ⟨m.length + 2, 0, none⟩)]) Tryd.func64 rfl
  (fun v => by
   obtain ⟨N, rfl⟩ := hN
   obtain ⟨N', hN'⟩ := set_high (m0 := m) (N := N) (a := m.length + 1) (by omega) (some { cells := iv v })
   unfold MI
   rw [hN']
   exact hB.old _) hg (bstep_each hin.2.2.2 hin.2.1)
  (fun i j y x v T b1 b2 b3 b4 hI => bestc_ok (m := M0) (m1 := m) (q := m.length + 1) (a1 := m.length + 0) (a2 := m.length + 2) hN hB hg (by omega) (by omega) r1 r2 (by omega) (by omega) b1 b2 b3 b4 hI)
  (fun v => MI.len) (fun v v' j b h => MI.flat (by omega) v v' _ j b h) (Low.func (fun v hv => by
   simp only [List.mem_cons, List.not_mem_nil, or_false] at hv
   rcases hv with rfl | rfl
   ·exact Low.ptr (by omega)
   ·exact Low.ptr (by omega))) (List.replicate (total (bw B) (bh B)) 0) TabI.zero
 have hE := hE _ ⟨_, rfl⟩ (by rw [List.length_append]; rfl) (Rd.new (b := { cells := [.pointer (some ⟨p, 0, none⟩)] }) rfl rfl) (Rd.new (L := [some { cells := [.pointer (some ⟨p, 0, none⟩)] }, some { cells := iv (List.replicate (total (bw B) (bh B)) 0) }, some { cells := [.slice (some ⟨m.length + 1, 0, none⟩) (total (bw B) (bh B)) (total (bw B) (bh B))] }]) rfl rfl)
 simp only [h0] at hE
 ((with_reducible apply Step.callM fit);exact rfl;exact Tryd.func50;exact rfl;exact rfl;exact hE)
 (repeat (first|(with_reducible refine AWo.cons ?_)|((with_reducible refine Step.id ?_);first|((with_reducible apply Step.assign);exact rfl;exact rfl)|((with_reducible apply Step.load);exact rfl;((decide +kernel));exact rfl;((exact Rd.new rfl rfl))))|(with_reducible first|apply AWo.nil|apply AW.seq|apply Then.n|apply AW.regL)))
 (refine AW.ret ?_; (repeat (first | refine Then.r ?_ | refine InBlk.r ?_)))
 exact ⟨_, rfl, _, rfl, m.length + 1, by omega, rfl, by rw [get_app]; rfl⟩
set_option maxHeartbeats 8000000 in
set_option maxRecDepth 100000 in
theorem Best_no {m : AM} {sv kv : Value} {B : Brd} {K : List Kd} (hs : Strs m sv B) (hk : Kds m kv K) (hg : goodB B K = false) :
  ACall Tryd.prog 12 #[sv, kv] m (Ret (.tuple #[.int .i64 0, .int .i64 2]) m) := by
 have hN := fun T => newBoard_no (hs.old T) (hk.old T) hg
 refine ACall.start Tryd.func12 rfl rfl ?_
 (repeat (first|(with_reducible refine AWo.cons ?_)|((with_reducible refine Step.id ?_);first|((with_reducible apply Step.move);exact rfl;exact rfl)|((with_reducible apply Step.assign);exact rfl;exact rfl)|((with_reducible apply Step.ptrNil);exact rfl;exact rfl;exact un100;exact rfl)|((with_reducible apply Step.callR fit);exact rfl;exact Tryd.func34;exact rfl;exact rfl;exact (hN _)))|(with_reducible first|apply AWo.nil|apply AW.seq|apply Then.n|apply AW.regL)|((with_reducible apply AW.condT);exact rfl;((rfl)))))
 (refine AW.retD (l := [(4, _), (5, _)]) (by repeat (first | exact trivial | (refine And.intro ⟨rfl, by (exact .int _ _)⟩ ?_))) ?_; (repeat (first | refine Then.r ?_ | refine InBlk.r ?_)))
 exact ⟨_, rfl, rfl, rfl⟩
set_option maxHeartbeats 8000000 in
set_option maxRecDepth 100000 in
theorem Best_ok {m : AM} {sv kv : Value} {B : Brd} {K : List Kd} (hs : Strs m sv B) (hk : Kds m kv K) (hg : goodB B K = true) :
  ACall Tryd.prog 12 #[sv, kv] m (Ret (.tuple #[.int .i64 (bestM B K), .int .i64 0]) m) := by
 have hgb : boardB B = true := by simp only [goodB, Bool.and_eq_true] at hg; exact hg.1
 have hin := good_in hgb
 refine ACall.drop (Ren.tup2 (.int _ _) (.int _ _)) ?_
 refine ACall.start Tryd.func12 rfl rfl ?_
 (repeat (first|(with_reducible refine AWo.cons ?_)|((with_reducible refine Step.id ?_);first|((with_reducible apply Step.move);exact rfl;exact rfl)|((with_reducible apply Step.assign);exact rfl;exact rfl))|(with_reducible first|apply AWo.nil|apply AW.seq|apply Then.n|apply AW.regL)))
 ((with_reducible apply Step.callX fit);exact rfl;exact Tryd.func34;exact rfl;exact rfl;exact (newBoard_ok (hs.old _) (hk.old _) hg))
 rintro v m1 ⟨N1, hN1⟩ ⟨p, hp, rfl, hB⟩
 have hok : (wholeR B).ok (bw B) (bh B) := by
  simp only [R4.ok, wholeR]
  omega
 have hat := at_lt hin.2.2.2 hin.2.1 hok
 have hlen : (boardT B K).length = total (bw B) (bh B) := (bestT_ok hin.2.2.2 hin.2.1).len
 have hb2 : ∀ T, ACall Tryd.prog 35 #[.pointer (some ⟨p, 0, none⟩)] (m1 ++ T) _ := fun T => best_ok (hB.old T) hg
 have w1 := fun T => whole_ok (hB.old T)
 have nn := fun T => num_ok (m := T) hin.2.2.2 hin.2.1 hok
 have tw := hB.w
 have th := hB.h
 change ∀ T, ACall Tryd.prog 37 _ _ (Ret (.agg (wholeR B).rc.cells.toArray) _) at w1
 have hrr : (wholeR B).rc = (wholeR B).rc := rfl
 change ∀ T, ACall Tryd.prog 36 #[_, _, .agg (wholeR B).rc.cells.toArray] _ _ at nn
 have hbm : bestM B K = (boardT B K).getD ((wholeR B).at (bw B) (bh B)) 0 := rfl
 rw [hbm]
 generalize (wholeR B).at (bw B) (bh B) = n at *
 clear hrr
 (repeat' (first|(with_reducible refine AWo.cons ?_)|((with_reducible refine Step.id ?_);first|((with_reducible apply Step.move);exact rfl;exact rfl)|((with_reducible apply Step.assign);exact rfl;exact rfl)|((with_reducible apply Step.load);exact rfl;((decide +kernel));exact rfl;((exact Rd.old _ (by assumption))))|((with_reducible apply Step.field (k := 2));exact rfl;((decide +kernel));exact rfl)|((with_reducible apply Step.field (k := 3));exact rfl;((decide +kernel));exact rfl)|((with_reducible apply Step.ptrNot);exact rfl;exact rfl;exact un100;exact rfl)|((with_reducible apply Step.nilp);exact rfl;exact rfl))|(with_reducible first|apply AWo.nil|apply AW.seq|apply Then.n|apply AW.regL)|((with_reducible apply AW.drawT fit (T := (.step 0 (.step 2 (.step 3 (.step 4 (.step 6 (.step 7 (.step 8 (.step 10 (.both (.step 1 (.both (.step 5 (.both (.step 9 (.step 11 (.step 12 (.step 13 (.step 14 (.step 15 (.step 16 .done))))))) (.step 11 (.step 9 (.step 12 (.step 13 (.step 14 (.step 15 (.step 16 .done))))))))) (.both (.step 9 (.both (.step 5 (.step 11 (.step 12 (.step 13 (.step 14 (.step 15 (.step 16 .done))))))) (.step 11 (.step 5 (.step 12 (.step 13 (.step 14 (.step 15 (.step 16 .done))))))))) (.step 11 (.step 5 (.step 9 (.step 12 (.step 13 (.step 14 (.step 15 (.step 16 .done))))))))))) (.both (.step 5 (.both (.step 1 (.both (.step 9 (.step 11 (.step 12 (.step 13 (.step 14 (.step 15 (.step 16 .done))))))) (.step 11 (.step 9 (.step 12 (.step 13 (.step 14 (.step 15 (.step 16 .done))))))))) (.step 9 (.step 1 (.step 11 (.step 12 (.step 13 (.step 14 (.step 15 (.step 16 .done)))))))))) (.step 9 (.both (.step 1 (.both (.step 5 (.step 11 (.step 12 (.step 13 (.step 14 (.step 15 (.step 16 .done))))))) (.step 11 (.step 5 (.step 12 (.step 13 (.step 14 (.step 15 (.step 16 .done))))))))) (.step 5 (.step 1 (.step 11 (.step 12 (.step 13 (.step 14 (.step 15 (.step 16 .done))))))))))))))))))))));((decide +kernel)))|((with_reducible apply AWt.step);exact rfl)|(with_reducible apply AW.skip)|((with_reducible apply AW.condF);exact rfl;((rfl)))|refine AWt.both ?_ ?_))
 all_goals
  ((with_reducible apply Step.callX fit);exact rfl;exact Tryd.func35;exact rfl;exact rfl;exact (hb2 _))
  rintro v m2 ⟨N2, hN2⟩ ⟨q, hq, rfl, hqc⟩
  have x0 : ∀ T, BoardAt (m2 ++ T) p B K := fun T => by rw [hN2]; exact ((hB.old _).old _).old _
  have x1 := (x0 []).w
  have x2 := (x0 []).h
  rw [List.append_nil] at x1 x2
  have x3 := fun T => whole_ok (x0 T)
  have x4 := rd_iv hqc rfl (k := n) (by omega)
  have x5 : ∃ N, m2 = m ++ N := ⟨N1 ++ N2, by rw [hN2, hN1]; simp⟩
  change ∀ T, ACall Tryd.prog 37 _ _ (Ret (.agg (wholeR B).rc.cells.toArray) _) at x3
  clear hN2 hq hqc
  (repeat' (first|((with_reducible refine Step.id ?_);first|((with_reducible apply Step.assign);exact rfl;exact rfl)|((with_reducible apply Step.load);exact rfl;((decide +kernel));exact rfl;((exact Rd.old _ (by assumption))))|((with_reducible apply Step.ix1z);exact rfl;((exact Sl.mk (by omega)));exact rfl;((decide +kernel));exact rfl;((omega)))|((with_reducible apply Step.callR fit);exact rfl;exact Tryd.func37;exact rfl;exact rfl;exact (x3 _))|((with_reducible apply Step.callR fit);exact rfl;exact Tryd.func36;exact rfl;exact rfl;exact (nn _)))|(with_reducible apply Then.n)|((with_reducible apply AWt.step);exact rfl)|(with_reducible apply AWt.done)|refine AWt.both ?_ ?_))
  all_goals
   (refine AW.ret ?_; (repeat (first | refine Then.r ?_ | refine InBlk.r ?_)))
   obtain ⟨N3, hN3⟩ := x5
   exact ⟨_, rfl, rfl, N3 ++ [], by rw [hN3, List.append_assoc]⟩
theorem bs30 {m : AM} {k : Nat} {a b : ByteArray} : abuildSlice Tryd.prog m k 22 2 [(0, .string a), (1, .string b)] = some (.slice (some ⟨k, 0, none⟩) 2 2, m.set k (some { cells := [.string a, .string b] })) := by kernel_rfl
theorem bl99 {a b c d : Int} : abuild Tryd.prog 77 [(0, .int .i64 a), (1, .int .i64 b), (2, .int .i64 c), (3, .int .i64 d)] = some (.agg #[.int .i64 a, .int .i64 b, .int .i64 c, .int .i64 d, .bool false]) := by kernel_rfl
theorem bs35 {m : AM} {k : Nat} {a b c d a' b' c' d' : Int} {t t' : Bool} : abuildSlice Tryd.prog m k 35 2 [(0, .agg #[.int .i64 a, .int .i64 b, .int .i64 c, .int .i64 d, .bool t]), (1, .agg #[.int .i64 a', .int .i64 b', .int .i64 c', .int .i64 d', .bool t'])] = some (.slice (some ⟨k, 0, none⟩) 2 2, m.set k (some { cells := [.int .i64 a, .int .i64 b, .int .i64 c, .int .i64 d, .bool t, .int .i64 a', .int .i64 b', .int .i64 c', .int .i64 d', .bool t'] })) := by kernel_rfl
def b10 : ByteArray := ⟨#[49, 48]⟩
def b11 : ByteArray := ⟨#[49, 49]⟩
def awB : Brd := [b10, b11]
def awK : List Kd := [⟨2, 1, 1, 5, false⟩, ⟨1, 1, 1, 2, false⟩]
theorem aw_good : goodB awB awK = true := by decide +kernel
theorem aw_best : bestM awB awK = 7 := by kernel_rfl
set_option maxRecDepth 100000 in
theorem awake_ok {m : AM} : ACall Tryd.prog 10 #[] m (Ret (.bool true) m) := by
 have hS : ∀ (T : AM), Strs (m ++ (some { cells := [.string b10, .string b11] } :: T)) (.slice (some ⟨m.length + 0, 0, none⟩) 2 2) awB := fun T =>
  ⟨m.length + 0, 0, Sl.mk (by decide), by simp, fun y hy => by
   rcases (show y = 0 ∨ y = 1 by simp [awB] at hy; omega) with rfl | rfl
   ·exact Rd.new rfl rfl
   ·exact Rd.new rfl rfl⟩
 have hK : ∀ (b0 : Option Blk) (T : AM), Kds (m ++ (b0 :: some { cells := [.int .i64 2, .int .i64 1, .int .i64 1, .int .i64 5, .bool false, .int .i64 1, .int .i64 1, .int .i64 1, .int .i64 2, .bool false] } :: T)) (.slice (some ⟨m.length + 1, 0, none⟩) 2 2) awK := fun b0 T =>
  ⟨m.length + 1, 0, Sl.mk (by decide), by simp, fun y hy => by
   rcases (show y = 0 ∨ y = 1 by simp [awK] at hy; omega) with rfl | rfl
   ·refine ⟨_, by rw [get_app]; rfl, fun j v hj => ?_⟩
    rcases j with _ | _ | _ | _ | _ | j
    all_goals first | exact hj | (simp [Kd.cells, awK] at hj)
   ·refine ⟨_, by rw [get_app]; rfl, fun j v hj => ?_⟩
    rcases j with _ | _ | _ | _ | _ | j
    all_goals first | exact hj | (simp [Kd.cells, awK] at hj)⟩
 have hb := fun T => Best_ok (m := m ++ (some { cells := [.string b10, .string b11] } :: some { cells := [.int .i64 2, .int .i64 1, .int .i64 1, .int .i64 5, .bool false, .int .i64 1, .int .i64 1, .int .i64 1, .int .i64 2, .bool false] } :: T)) (hS _) (hK _ T) aw_good
 rw [aw_best] at hb
 refine ACall.start Tryd.func10 rfl rfl ?_
 (repeat (first|(with_reducible refine AWo.cons ?_)|((with_reducible refine Step.id ?_);first|((with_reducible apply Step.gdT);exact rfl;exact rfl;((rfl)))|((with_reducible apply Step.move);exact rfl;exact rfl)|((with_reducible apply Step.assign);exact rfl;exact rfl)|((with_reducible apply Step.eql);exact rfl;exact rfl;exact rfl)|((with_reducible apply Step.extract);exact rfl;exact rfl;exact rfl)|((with_reducible apply Step.pickT);exact rfl;exact rfl;exact rfl;exact rfl;((rfl)))|((with_reducible apply Step.callR fit);exact rfl;exact Tryd.func12;exact rfl;exact rfl;exact (hb _))|((with_reducible apply Step.buildS 0);exact rfl;exact rfl;exact (fun _ _ => bs30);exact rfl;((first|(simp only [zq7, zq8, zq9, zq0, iv_set, bv_set, iv_rep, bv_rep] <;> rfl)|rfl)))|((with_reducible apply Step.buildS 1);exact rfl;exact rfl;exact (fun _ _ => bs35);exact rfl;((first|(simp only [zq7, zq8, zq9, zq0, iv_set, bv_set, iv_rep, bv_rep] <;> rfl)|rfl)))|((with_reducible apply Step.build);exact rfl;exact bl99;exact rfl))|(with_reducible first|apply AWo.nil|apply AW.seq|apply Then.n|apply AW.regL)))
 (refine AW.retD (l := [(0, _)]) (by repeat (first | exact trivial | (refine And.intro ⟨rfl, by (exact .bool _)⟩ ?_))) ?_; (repeat (first | refine Then.r ?_ | refine InBlk.r ?_)))
 exact ⟨_, rfl, rfl, rfl⟩
theorem rowB_no {n : Nat} {s : ByteArray} {i : Nat} (hi : i < s.size) (h : ¬ (48 ≤ byteAt s i ∧ byteAt s i ≤ 57)) : rowB n s = false := by
 rw [Bool.eq_false_iff]
 intro hc
 simp only [rowB, Bool.and_eq_true, List.all_eq_true, List.mem_range, decide_eq_true_eq] at hc
 exact h (hc.2 i hi)
theorem rowB_yes {n : Nat} {s : ByteArray} (hs : s.size = n) (h : ∀ i, i < s.size → 48 ≤ byteAt s i ∧ byteAt s i ≤ 57) : rowB n s = true := by
 simp only [rowB, Bool.and_eq_true, List.all_eq_true, List.mem_range, decide_eq_true_eq]
 exact ⟨hs, h⟩
set_option maxRecDepth 100000 in
theorem RValid_ok {m : AM} {sv : Value} {B : Brd} (hs : Strs m sv B) : ACall Tryd.prog 9 #[sv] m (Ret (.bool (skinB B)) m) := by
 obtain ⟨A, O, sl, la, rd⟩ := hs
 refine ACall.start Tryd.func9 rfl rfl ?_
 by_cases h1 : B.length < 1
 ·have e : skinB B = false := by simp [skinB]; omega
  (repeat (first|(with_reducible refine AWo.cons ?_)|((with_reducible refine Step.id ?_);first|((with_reducible apply Step.gdF);exact rfl;exact rfl;((first|rfl|(simp only [zq1, zq2, zq3, zq4, zq5, zq6];first|assumption|omega))))|((with_reducible apply Step.move);exact rfl;exact rfl)|((with_reducible apply Step.assign);exact rfl;exact rfl)|((with_reducible apply Step.lss);exact rfl;exact rfl;exact rfl)|((with_reducible apply Step.len);exact rfl;((assumption));((decide +kernel));exact rfl)|((with_reducible apply Step.pickT);exact rfl;exact rfl;exact rfl;exact rfl;((first|rfl|(simp only [zq1, zq2, zq3, zq4, zq5, zq6];first|assumption|omega)))))|(with_reducible first|apply AWo.nil|apply AW.seq|apply Then.n|apply AW.regL)|((with_reducible apply AW.condT);exact rfl;((rfl)))))
  (refine AW.retD (l := [(2, _)]) (by repeat (first | exact trivial | (refine And.intro ⟨rfl, by (exact .bool _)⟩ ?_))) ?_; (repeat (first | refine Then.r ?_ | refine InBlk.r ?_)))
  exact ⟨_, rfl, by rw [e], rfl⟩
 by_cases h2 : 48 < B.length
 ·have e : skinB B = false := by simp [skinB]; omega
  (repeat (first|(with_reducible refine AWo.cons ?_)|((with_reducible refine Step.id ?_);first|((with_reducible apply Step.gdT);exact rfl;exact rfl;(((simp only [zq1, zq2, zq3, zq4, zq5, zq6];first|assumption|omega))))|((with_reducible apply Step.gdF);exact rfl;exact rfl;((first|rfl|(simp only [zq1, zq2, zq3, zq4, zq5, zq6];first|assumption|omega))))|((with_reducible apply Step.move);exact rfl;exact rfl)|((with_reducible apply Step.assign);exact rfl;exact rfl)|((with_reducible apply Step.lss);exact rfl;exact rfl;exact rfl)|((with_reducible apply Step.gtr);exact rfl;exact rfl;exact rfl)|((with_reducible apply Step.len);exact rfl;((assumption));((decide +kernel));exact rfl)|((with_reducible apply Step.pickT);exact rfl;exact rfl;exact rfl;exact rfl;((first|rfl|(simp only [zq1, zq2, zq3, zq4, zq5, zq6];first|assumption|omega))))|((with_reducible apply Step.pickF);exact rfl;exact rfl;exact rfl;exact rfl;(((simp only [zq1, zq2, zq3, zq4, zq5, zq6];first|assumption|omega)))))|(with_reducible first|apply AWo.nil|apply AW.seq|apply Then.n|apply AW.regL)|((with_reducible apply AW.condT);exact rfl;((rfl)))))
  (refine AW.retD (l := [(2, _)]) (by repeat (first | exact trivial | (refine And.intro ⟨rfl, by (exact .bool _)⟩ ?_))) ?_; (repeat (first | refine Then.r ?_ | refine InBlk.r ?_)))
  exact ⟨_, rfl, by rw [e], rfl⟩
 have r0 := rd 0 (by omega)
 by_cases h3 : (rowOf B 0).size < 1
 ·have e : skinB B = false := by simp [skinB]; omega
  (repeat (first|(with_reducible refine AWo.cons ?_)|((with_reducible refine Step.id ?_);first|((with_reducible apply Step.gdT);exact rfl;exact rfl;(((simp only [zq1, zq2, zq3, zq4, zq5, zq6];first|assumption|omega))))|((with_reducible apply Step.gdF);exact rfl;exact rfl;(((simp only [zq1, zq2, zq3, zq4, zq5, zq6];first|assumption|omega))))|((with_reducible apply Step.move);exact rfl;exact rfl)|((with_reducible apply Step.assign);exact rfl;exact rfl)|((with_reducible apply Step.load);exact rfl;((decide +kernel));exact rfl;((exact Rd.old _ (by assumption))))|((with_reducible apply Step.ix1 (k := 0));exact rfl;((assumption));exact rfl;((decide +kernel));exact rfl;((omega)))|((with_reducible apply Step.lenS);exact rfl;exact un9;exact rfl)|((with_reducible apply Step.lss);exact rfl;exact rfl;exact rfl)|((with_reducible apply Step.gtr);exact rfl;exact rfl;exact rfl)|((with_reducible apply Step.len);exact rfl;((assumption));((decide +kernel));exact rfl)|((with_reducible apply Step.pickT);exact rfl;exact rfl;exact rfl;exact rfl;(((simp only [zq1, zq2, zq3, zq4, zq5, zq6];first|assumption|omega))))|((with_reducible apply Step.pickF);exact rfl;exact rfl;exact rfl;exact rfl;(((simp only [zq1, zq2, zq3, zq4, zq5, zq6];first|assumption|omega)))))|(with_reducible first|apply AWo.nil|apply AW.seq|apply Then.n|apply AW.regL)|((with_reducible apply AW.condT);exact rfl;((rfl)))))
  (refine AW.retD (l := [(2, _)]) (by repeat (first | exact trivial | (refine And.intro ⟨rfl, by (exact .bool _)⟩ ?_))) ?_; (repeat (first | refine Then.r ?_ | refine InBlk.r ?_)))
  exact ⟨_, rfl, by rw [e], rfl⟩
 by_cases h4 : 48 < (rowOf B 0).size
 ·have e : skinB B = false := by simp [skinB]; omega
  (repeat (first|(with_reducible refine AWo.cons ?_)|((with_reducible refine Step.id ?_);first|((with_reducible apply Step.gdT);exact rfl;exact rfl;(((simp only [zq1, zq2, zq3, zq4, zq5, zq6];first|assumption|omega))))|((with_reducible apply Step.move);exact rfl;exact rfl)|((with_reducible apply Step.assign);exact rfl;exact rfl)|((with_reducible apply Step.load);exact rfl;((decide +kernel));exact rfl;((exact Rd.old _ (by assumption))))|((with_reducible apply Step.ix1 (k := 0));exact rfl;((assumption));exact rfl;((decide +kernel));exact rfl;((omega)))|((with_reducible apply Step.lenS);exact rfl;exact un9;exact rfl)|((with_reducible apply Step.lss);exact rfl;exact rfl;exact rfl)|((with_reducible apply Step.gtr);exact rfl;exact rfl;exact rfl)|((with_reducible apply Step.len);exact rfl;((assumption));((decide +kernel));exact rfl)|((with_reducible apply Step.pickF);exact rfl;exact rfl;exact rfl;exact rfl;(((simp only [zq1, zq2, zq3, zq4, zq5, zq6];first|assumption|omega)))))|(with_reducible first|apply AWo.nil|apply AW.seq|apply Then.n|apply AW.regL)|((with_reducible apply AW.condT);exact rfl;(((simp only [zq1, zq2, zq3, zq4, zq5, zq6];first|assumption|omega))))))
  (refine AW.retD (l := [(2, _)]) (by repeat (first | exact trivial | (refine And.intro ⟨rfl, by (exact .bool _)⟩ ?_))) ?_; (repeat (first | refine Then.r ?_ | refine InBlk.r ?_)))
  exact ⟨_, rfl, by rw [e], rfl⟩
 have hk := skinB_rows (B := B) (by omega)
 (repeat (first|(with_reducible refine AWo.cons ?_)|((with_reducible refine Step.id ?_);first|((with_reducible apply Step.gdT);exact rfl;exact rfl;(((simp only [zq1, zq2, zq3, zq4, zq5, zq6];first|assumption|omega))))|((with_reducible apply Step.move);exact rfl;exact rfl)|((with_reducible apply Step.assign);exact rfl;exact rfl)|((with_reducible apply Step.load);exact rfl;((decide +kernel));exact rfl;((exact Rd.old _ (by assumption))))|((with_reducible apply Step.ix1 (k := 0));exact rfl;((assumption));exact rfl;((decide +kernel));exact rfl;((omega)))|((with_reducible apply Step.lenS);exact rfl;exact un9;exact rfl)|((with_reducible apply Step.lss);exact rfl;exact rfl;exact rfl)|((with_reducible apply Step.gtr);exact rfl;exact rfl;exact rfl)|((with_reducible apply Step.len);exact rfl;((assumption));((decide +kernel));exact rfl)|((with_reducible apply Step.pickF);exact rfl;exact rfl;exact rfl;exact rfl;(((simp only [zq1, zq2, zq3, zq4, zq5, zq6];first|assumption|omega)))))|(with_reducible first|apply AWo.nil|apply AW.seq|apply Then.n|apply AW.regL|apply AW.block|apply AW.skip)|((with_reducible apply AW.condF);exact rfl;(((simp only [zq1, zq2, zq3, zq4, zq5, zq6];first|assumption|omega))))))
 refine AW.loopT (fun n t L => ∃ k : Nat, n = B.length - k ∧ k ≤ B.length ∧ L = [] ∧ (∀ y, y < k → rowB (rowOf B 0).size (rowOf B y) = true) ∧
  t = [(0, sv), (28, sv), (29, .int .i64 (B.length : Nat)), (30, .int .i64 (k : Nat))])
  ⟨_, _, _, (Or.inl ⟨rfl, (by repeat (first | exact trivial | (refine And.intro rfl ?_)))⟩), 0, rfl, Nat.zero_le _, rfl, fun y hy => by omega, rfl⟩ ?_
 rintro n t L ⟨k, rfl, hkk, rfl, hr, rfl⟩
 rcases Nat.lt_or_ge k B.length with hlt | hge
 ·have rk := rd k hlt
  by_cases h5 : (rowOf B k).size = (rowOf B 0).size
  ·(repeat (first|(with_reducible refine AWo.cons ?_)|((with_reducible refine Step.id ?_);first|((with_reducible apply Step.move);exact rfl;exact rfl)|((with_reducible apply Step.assign);exact rfl;exact rfl)|((with_reducible apply Step.load);exact rfl;((decide +kernel));exact rfl;((exact Rd.old _ (by assumption))))|((with_reducible apply Step.ix1);exact rfl;((assumption));exact rfl;((decide +kernel));exact rfl;((omega)))|((with_reducible apply Step.ix1 (k := 0));exact rfl;((assumption));exact rfl;((decide +kernel));exact rfl;((omega)))|((with_reducible apply Step.lenS);exact rfl;exact un9;exact rfl)|((with_reducible apply Step.lss);exact rfl;exact rfl;exact rfl)|((with_reducible apply Step.neq);exact rfl;exact rfl;exact rfl))|(with_reducible first|apply AWo.nil|apply AW.seq|apply Then.n|apply AW.regL|apply AW.block|apply AW.skip)|((with_reducible apply AW.condT);exact rfl;(((simp only [zq1, zq2, zq3, zq4, zq5, zq6];first|assumption|omega))))|((with_reducible apply AW.condF);exact rfl;(((simp only [zq1, zq2, zq3, zq4, zq5, zq6];first|assumption|omega))))))
   refine AW.loopT (fun n t L => ∃ i : Nat, n = (rowOf B k).size - i ∧ i ≤ (rowOf B k).size ∧ L = [] ∧ (∀ j, j < i → 48 ≤ byteAt (rowOf B k) j ∧ byteAt (rowOf B k) j ≤ 57) ∧
    t = [(0, sv), (4, .string (rowOf B k)), (28, sv), (29, .int .i64 (B.length : Nat)), (30, .int .i64 (k : Nat)), (42, .int .i64 ((rowOf B k).size : Nat)), (43, .int .i64 (i : Nat))])
    ⟨_, _, _, (Or.inl ⟨rfl, (by repeat (first | exact trivial | (refine And.intro rfl ?_)))⟩), 0, rfl, Nat.zero_le _, rfl, fun y hy => by omega, rfl⟩ ?_
   rintro n t L ⟨i, rfl, hi, rfl, hc, rfl⟩
   rcases Nat.lt_or_ge i (rowOf B k).size with hil | hig
   ·by_cases h6 : byteAt (rowOf B k) i < 48
    ·(repeat (first|(with_reducible refine AWo.cons ?_)|((with_reducible refine Step.id ?_);first|((with_reducible apply Step.gdF);exact rfl;exact rfl;(((simp only [zq1, zq2, zq3, zq4, zq5, zq6];first|assumption|omega))))|((with_reducible apply Step.move);exact rfl;exact rfl)|((with_reducible apply Step.assign);exact rfl;exact rfl)|((with_reducible apply Step.strIx);exact rfl;exact rfl;exact un9;((omega));exact rfl)|((with_reducible apply Step.lss);exact rfl;exact rfl;exact rfl)|((with_reducible apply Step.pickT);exact rfl;exact rfl;exact rfl;exact rfl;(((simp only [zq1, zq2, zq3, zq4, zq5, zq6];first|assumption|omega)))))|(with_reducible first|apply AWo.nil|apply AW.seq|apply Then.n|apply AW.regL|apply AW.block|apply AW.skip)|((with_reducible apply AW.condT);exact rfl;((first|rfl|(simp only [zq1, zq2, zq3, zq4, zq5, zq6];first|assumption|omega))))))
     (refine AW.retD (l := [(2, _)]) (by repeat (first | exact trivial | (refine And.intro ⟨rfl, by (exact .bool _)⟩ ?_))) ?_; (repeat (first | refine Then.r ?_ | refine InBlk.r ?_)))
     exact ⟨_, rfl, by rw [hk, not_rows hlt (rowB_no hil (by omega))], rfl⟩
    by_cases h7 : 57 < byteAt (rowOf B k) i
    ·(repeat (first|(with_reducible refine AWo.cons ?_)|((with_reducible refine Step.id ?_);first|((with_reducible apply Step.gdT);exact rfl;exact rfl;(((simp only [zq1, zq2, zq3, zq4, zq5, zq6];first|assumption|omega))))|((with_reducible apply Step.move);exact rfl;exact rfl)|((with_reducible apply Step.assign);exact rfl;exact rfl)|((with_reducible apply Step.strIx);exact rfl;exact rfl;exact un9;((omega));exact rfl)|((with_reducible apply Step.lss);exact rfl;exact rfl;exact rfl)|((with_reducible apply Step.gtr);exact rfl;exact rfl;exact rfl)|((with_reducible apply Step.pickF);exact rfl;exact rfl;exact rfl;exact rfl;(((simp only [zq1, zq2, zq3, zq4, zq5, zq6];first|assumption|omega)))))|(with_reducible first|apply AWo.nil|apply AW.seq|apply Then.n|apply AW.regL|apply AW.block|apply AW.skip)|((with_reducible apply AW.condT);exact rfl;(((simp only [zq1, zq2, zq3, zq4, zq5, zq6];first|assumption|omega))))))
     (refine AW.retD (l := [(2, _)]) (by repeat (first | exact trivial | (refine And.intro ⟨rfl, by (exact .bool _)⟩ ?_))) ?_; (repeat (first | refine Then.r ?_ | refine InBlk.r ?_)))
     exact ⟨_, rfl, by rw [hk, not_rows hlt (rowB_no hil (by omega))], rfl⟩
    (repeat (first|(with_reducible refine AWo.cons ?_)|((with_reducible refine Step.id ?_);first|((with_reducible apply Step.gdT);exact rfl;exact rfl;(((simp only [zq1, zq2, zq3, zq4, zq5, zq6];first|assumption|omega))))|((with_reducible apply Step.move);exact rfl;exact rfl)|((with_reducible apply Step.assign);exact rfl;exact rfl)|((with_reducible apply Step.strIx);exact rfl;exact rfl;exact un9;((omega));exact rfl)|((with_reducible apply Step.add);exact rfl;exact rfl;((omega));exact rfl)|((with_reducible apply Step.lss);exact rfl;exact rfl;exact rfl)|((with_reducible apply Step.gtr);exact rfl;exact rfl;exact rfl)|((with_reducible apply Step.pickF);exact rfl;exact rfl;exact rfl;exact rfl;(((simp only [zq1, zq2, zq3, zq4, zq5, zq6];first|assumption|omega)))))|(with_reducible first|apply AWo.nil|apply AW.seq|apply Then.n|apply AW.regL|apply AW.block|apply InBlk.n|apply AW.skip)|((with_reducible apply AW.condT);exact rfl;(((simp only [zq1, zq2, zq3, zq4, zq5, zq6];first|assumption|omega))))|((with_reducible apply AW.condF);exact rfl;(((simp only [zq1, zq2, zq3, zq4, zq5, zq6];first|assumption|omega))))))
    exact ⟨_, _, _, by omega, (Or.inl ⟨rfl, (by repeat (first | exact trivial | (refine And.intro rfl ?_)))⟩), i + 1, rfl, by omega, rfl, fun y hy => by
     rcases Nat.lt_succ_iff_lt_or_eq.1 hy with h | rfl
     ·exact hc y h
     ·omega, rfl⟩
   ·obtain rfl : i = (rowOf B k).size := by omega
    (repeat (first|(with_reducible refine AWo.cons ?_)|((with_reducible refine Step.id ?_);first|((with_reducible apply Step.move);exact rfl;exact rfl)|((with_reducible apply Step.add);exact rfl;exact rfl;((omega));exact rfl)|((with_reducible apply Step.lss);exact rfl;exact rfl;exact rfl))|(with_reducible first|apply AWo.nil|apply AW.seq|apply Then.n|apply AW.regL|apply AW.exit|apply InBlk.n|apply InBlk.hit|apply Then.e)|((with_reducible apply AW.condF);exact rfl;(((simp only [zq1, zq2, zq3, zq4, zq5, zq6];first|assumption|omega))))))
    exact ⟨_, _, _, by omega, (Or.inl ⟨rfl, (by repeat (first | exact trivial | (refine And.intro rfl ?_)))⟩), k + 1, rfl, by omega, rfl, fun y hy => by
     rcases Nat.lt_succ_iff_lt_or_eq.1 hy with h | rfl
     ·exact hr y h
     ·exact rowB_yes h5 hc, rfl⟩
  ·(repeat (first|(with_reducible refine AWo.cons ?_)|((with_reducible refine Step.id ?_);first|((with_reducible apply Step.move);exact rfl;exact rfl)|((with_reducible apply Step.assign);exact rfl;exact rfl)|((with_reducible apply Step.load);exact rfl;((decide +kernel));exact rfl;((exact Rd.old _ (by assumption))))|((with_reducible apply Step.ix1);exact rfl;((assumption));exact rfl;((decide +kernel));exact rfl;((omega)))|((with_reducible apply Step.ix1 (k := 0));exact rfl;((assumption));exact rfl;((decide +kernel));exact rfl;((omega)))|((with_reducible apply Step.lenS);exact rfl;exact un9;exact rfl)|((with_reducible apply Step.lss);exact rfl;exact rfl;exact rfl)|((with_reducible apply Step.neq);exact rfl;exact rfl;exact rfl))|(with_reducible first|apply AWo.nil|apply AW.seq|apply Then.n|apply AW.regL|apply AW.block|apply AW.skip)|((with_reducible apply AW.condT);exact rfl;(((simp only [zq1, zq2, zq3, zq4, zq5, zq6];first|assumption|omega))))))
   (refine AW.retD (l := [(2, _)]) (by repeat (first | exact trivial | (refine And.intro ⟨rfl, by (exact .bool _)⟩ ?_))) ?_; (repeat (first | refine Then.r ?_ | refine InBlk.r ?_)))
   exact ⟨_, rfl, by rw [hk, not_rows hlt (by simp [rowB, h5])], rfl⟩
 ·obtain rfl : k = B.length := by omega
  (repeat (first|(with_reducible refine AWo.cons ?_)|((with_reducible refine Step.id ?_);first|((with_reducible apply Step.assign);exact rfl;exact rfl)|((with_reducible apply Step.lss);exact rfl;exact rfl;exact rfl))|(with_reducible first|apply AWo.nil|apply AW.seq|apply Then.n|apply AW.regL|apply AW.exit|apply InBlk.hit|apply Then.e)|((with_reducible apply AW.condF);exact rfl;(((simp only [zq1, zq2, zq3, zq4, zq5, zq6];first|assumption|omega))))))
  (refine AW.retD (l := [(2, _)]) (by repeat (first | exact trivial | (refine And.intro ⟨rfl, by (exact .bool _)⟩ ?_))) ?_; (repeat (first | refine Then.r ?_ | refine InBlk.r ?_)))
  exact ⟨_, rfl, by rw [hk, all_rows hr], rfl⟩
set_option maxRecDepth 100000 in
theorem RBoard_ok {m : AM} {sv : Value} {B : Brd} (hs : Strs m sv B) : ACall Tryd.prog 32 #[sv] m (Ret (.bool (boardB B)) m) := by
 have hV := fun T => RValid_ok (hs.old T)
 obtain ⟨A, O, sl, la, rd⟩ := hs
 refine ACall.start Tryd.func32 rfl rfl ?_
 cases hv : skinB B with
 | false =>
  rw [hv] at hV
  (repeat (first|(with_reducible refine AWo.cons ?_)|((with_reducible refine Step.id ?_);first|((with_reducible apply Step.gdF);exact rfl;exact rfl;((rfl)))|((with_reducible apply Step.move);exact rfl;exact rfl)|((with_reducible apply Step.assign);exact rfl;exact rfl)|((with_reducible apply Step.pickF);exact rfl;exact rfl;exact rfl;exact rfl;((rfl)))|((with_reducible apply Step.callR fit);exact rfl;exact Tryd.func9;exact rfl;exact rfl;exact (hV _)))|(with_reducible first|apply AWo.nil|apply AW.seq|apply Then.n|apply AW.regL)))
  (refine AW.retD (l := [(2, _)]) (by repeat (first | exact trivial | (refine And.intro ⟨rfl, by (exact .bool _)⟩ ?_))) ?_; (repeat (first | refine Then.r ?_ | refine InBlk.r ?_)))
  exact ⟨_, rfl, by simp [boardB, hv], rfl⟩
 | true =>
  rw [hv] at hV
  have hvv := hv
  simp only [skinB, Bool.and_eq_true, decide_eq_true_eq] at hvv
  have r0 := rd 0 (by omega)
  by_cases h1 : B.length ≤ 16
  ·(repeat (first|(with_reducible refine AWo.cons ?_)|((with_reducible refine Step.id ?_);first|((with_reducible apply Step.gdT);exact rfl;exact rfl;((first|rfl|(simp only [zq1, zq2, zq3, zq4, zq5, zq6];first|assumption|omega))))|((with_reducible apply Step.move);exact rfl;exact rfl)|((with_reducible apply Step.assign);exact rfl;exact rfl)|((with_reducible apply Step.load);exact rfl;((decide +kernel));exact rfl;((exact Rd.old _ (by assumption))))|((with_reducible apply Step.ix1 (k := 0));exact rfl;((assumption));exact rfl;((decide +kernel));exact rfl;((omega)))|((with_reducible apply Step.lenS);exact rfl;exact un9;exact rfl)|((with_reducible apply Step.leq);exact rfl;exact rfl;exact rfl)|((with_reducible apply Step.len);exact rfl;((assumption));((decide +kernel));exact rfl)|((with_reducible apply Step.pickT);exact rfl;exact rfl;exact rfl;exact rfl;((first|rfl|(simp only [zq1, zq2, zq3, zq4, zq5, zq6];first|assumption|omega))))|((with_reducible apply Step.callR fit);exact rfl;exact Tryd.func9;exact rfl;exact rfl;exact (hV _)))|(with_reducible first|apply AWo.nil|apply AW.seq|apply Then.n|apply AW.regL)))
   (refine AW.retD (l := [(2, _)]) (by repeat (first | exact trivial | (refine And.intro ⟨rfl, by (exact .bool _)⟩ ?_))) ?_; (repeat (first | refine Then.r ?_ | refine InBlk.r ?_)))
   exact ⟨_, rfl, by simp [boardB, hv, h1]; congr 1; constructor <;> intro h <;> omega, rfl⟩
  ·(repeat (first|(with_reducible refine AWo.cons ?_)|((with_reducible refine Step.id ?_);first|((with_reducible apply Step.gdT);exact rfl;exact rfl;((rfl)))|((with_reducible apply Step.gdF);exact rfl;exact rfl;(((simp only [zq1, zq2, zq3, zq4, zq5, zq6];first|assumption|omega))))|((with_reducible apply Step.move);exact rfl;exact rfl)|((with_reducible apply Step.assign);exact rfl;exact rfl)|((with_reducible apply Step.leq);exact rfl;exact rfl;exact rfl)|((with_reducible apply Step.len);exact rfl;((assumption));((decide +kernel));exact rfl)|((with_reducible apply Step.pickT);exact rfl;exact rfl;exact rfl;exact rfl;((rfl)))|((with_reducible apply Step.pickF);exact rfl;exact rfl;exact rfl;exact rfl;(((simp only [zq1, zq2, zq3, zq4, zq5, zq6];first|assumption|omega))))|((with_reducible apply Step.callR fit);exact rfl;exact Tryd.func9;exact rfl;exact rfl;exact (hV _)))|(with_reducible first|apply AWo.nil|apply AW.seq|apply Then.n|apply AW.regL)))
   (refine AW.retD (l := [(2, _)]) (by repeat (first | exact trivial | (refine And.intro ⟨rfl, by (exact .bool _)⟩ ?_))) ?_; (repeat (first | refine Then.r ?_ | refine InBlk.r ?_)))
   exact ⟨_, rfl, by simp [boardB, hv, h1], rfl⟩
theorem ze33 : zeroB Tryd.prog 32 = some #[.int .i64 0, .int .i64 0, .int .i64 0, .int .i64 0, .bool false] := by kernel_rfl
set_option maxHeartbeats 4000000 in
set_option maxRecDepth 100000 in
theorem RKinds_ok {m : AM} {kv : Value} {K : List Kd} (hk : Kds m kv K) : ACall Tryd.prog 33 #[kv] m (Ret (.bool (kindsB K)) m) := by
 obtain ⟨A, O, sl, la, rd⟩ := hk
 obtain ⟨q, c, rfl⟩ := sl.shape
 have wl : Low m.length (.slice q K.length c) := Low.of_sl sl la
 refine ACall.start Tryd.func33 rfl rfl ?_
 by_cases h1 : 12 < K.length
 ·(repeat (first|(with_reducible refine AWo.cons ?_)|((with_reducible refine Step.id ?_);first|((with_reducible apply Step.move);exact rfl;exact rfl)|((with_reducible apply Step.assign);exact rfl;exact rfl)|((with_reducible apply Step.gtr);exact rfl;exact rfl;exact rfl)|((with_reducible apply Step.len);exact rfl;((assumption));((decide +kernel));exact rfl))|(with_reducible first|apply AWo.nil|apply AW.seq|apply Then.n|apply AW.regL)|((with_reducible apply AW.condT);exact rfl;(((simp only [zq1, zq2, zq3, zq4, zq5, zq6];first|assumption|omega))))))
  (refine AW.retD (l := [(2, _)]) (by repeat (first | exact trivial | (refine And.intro ⟨rfl, by (exact .bool _)⟩ ?_))) ?_; (repeat (first | refine Then.r ?_ | refine InBlk.r ?_)))
  exact ⟨_, rfl, by simp [kindsB]; omega, rfl⟩
 (repeat (first|(with_reducible refine AWo.cons ?_)|((with_reducible refine Step.id ?_);first|((with_reducible apply Step.move);exact rfl;exact rfl)|((with_reducible apply Step.assign);exact rfl;exact rfl)|((with_reducible apply Step.gtr);exact rfl;exact rfl;exact rfl)|((with_reducible apply Step.len);exact rfl;((assumption));((decide +kernel));exact rfl))|(with_reducible first|apply AWo.nil|apply AW.seq|apply Then.n|apply AW.regL|apply AW.block|apply AW.skip)|((with_reducible apply AW.condF);exact rfl;(((simp only [zq1, zq2, zq3, zq4, zq5, zq6];first|assumption|omega))))))
 refine AW.loopT (fun n t L => ∃ i : Nat, n = K.length - i ∧ i ≤ K.length ∧ L = [] ∧ (∀ j, j < i → kdB (K.getD j default) = true) ∧
  t = [(0, .slice q K.length c), (8, .slice q K.length c), (9, .int .i64 (K.length : Nat)), (10, .int .i64 (i : Nat))])
  ⟨_, _, _, (Or.inl ⟨rfl, (by repeat (first | exact trivial | (refine And.intro rfl ?_)))⟩), 0, rfl, Nat.zero_le _, rfl, fun j hj => by omega, rfl⟩ ?_
 rintro n t L ⟨i, rfl, hi, rfl, hd, rfl⟩
 rcases Nat.lt_or_ge i K.length with hlt | hge
 ·have rk := rd i hlt
  cases hkd : kdB (K.getD i default) with
  | false =>
   have e := kinds_no hlt hkd
   generalize K.getD i default = k at rk hkd
   obtain ⟨kw, kh, kg, ko, kt⟩ := k
   simp only [kdB, decide_eq_false_iff_not] at hkd
   simp only [Kd.cells] at rk
   by_cases h2 : kw < 1
   ·(repeat (first|(with_reducible refine AWo.cons ?_)|((with_reducible refine Step.id ?_);first|((with_reducible apply Step.gdF);exact rfl;exact rfl;((first|rfl|(simp only [zq1, zq2, zq3, zq4, zq5, zq6];first|assumption|omega))))|((with_reducible apply Step.move);exact rfl;exact rfl)|((with_reducible apply Step.assign);exact rfl;exact rfl)|((with_reducible apply Step.load);exact rfl;((decide +kernel));exact rfl;((exact Rd.new rfl rfl)))|((with_reducible apply Step.loadL (n := 5));exact rfl;((decide +kernel));((decide +kernel));exact rfl;((exact RdL.old _ (by assumption)));exact rfl;exact rfl)|((with_reducible apply Step.ix (s := 5));exact rfl;((assumption));exact rfl;((decide +kernel));exact rfl;((omega)))|((with_reducible apply Step.field0);exact rfl;((decide +kernel));exact rfl)|((with_reducible apply Step.lss);exact rfl;exact rfl;exact rfl)|((with_reducible apply Step.pickT);exact rfl;exact rfl;exact rfl;exact rfl;((first|rfl|(simp only [zq1, zq2, zq3, zq4, zq5, zq6];first|assumption|omega))))|((with_reducible apply Step.alloc 0);exact rfl;exact ze33;exact rfl;((first|(simp only [zq7, zq8, zq9, zq0, iv_set, bv_set, iv_rep, bv_rep] <;> rfl)|rfl)))|((with_reducible apply Step.storeA (k := 0) (n := 5));exact rfl;exact rfl;exact rfl;exact rfl;((decide +kernel));exact rfl;((kernel_rfl));exact rfl;((first|(simp only [zq7, zq8, zq9, zq0, iv_set, bv_set, iv_rep, bv_rep] <;> rfl)|rfl))))|(with_reducible first|apply AWo.nil|apply AW.seq|apply Then.n|apply AW.regL|apply AW.block|apply AW.skip)|((with_reducible apply AW.condT);exact rfl;((first|rfl|(simp only [zq1, zq2, zq3, zq4, zq5, zq6];first|assumption|omega))))))
    (refine AW.retD (l := [(2, _)]) (by repeat (first | exact trivial | (refine And.intro ⟨rfl, by (exact .bool _)⟩ ?_))) ?_; (repeat (first | refine Then.r ?_ | refine InBlk.r ?_)))
    exact ⟨_, rfl, by rw [e], rfl⟩
   by_cases h3 : 16 < kw
   ·(repeat (first|(with_reducible refine AWo.cons ?_)|((with_reducible refine Step.id ?_);first|((with_reducible apply Step.gdT);exact rfl;exact rfl;(((simp only [zq1, zq2, zq3, zq4, zq5, zq6];first|assumption|omega))))|((with_reducible apply Step.gdF);exact rfl;exact rfl;((first|rfl|(simp only [zq1, zq2, zq3, zq4, zq5, zq6];first|assumption|omega))))|((with_reducible apply Step.move);exact rfl;exact rfl)|((with_reducible apply Step.assign);exact rfl;exact rfl)|((with_reducible apply Step.load);exact rfl;((decide +kernel));exact rfl;((exact Rd.new rfl rfl)))|((with_reducible apply Step.loadL (n := 5));exact rfl;((decide +kernel));((decide +kernel));exact rfl;((exact RdL.old _ (by assumption)));exact rfl;exact rfl)|((with_reducible apply Step.ix (s := 5));exact rfl;((assumption));exact rfl;((decide +kernel));exact rfl;((omega)))|((with_reducible apply Step.field0);exact rfl;((decide +kernel));exact rfl)|((with_reducible apply Step.lss);exact rfl;exact rfl;exact rfl)|((with_reducible apply Step.gtr);exact rfl;exact rfl;exact rfl)|((with_reducible apply Step.pickT);exact rfl;exact rfl;exact rfl;exact rfl;((first|rfl|(simp only [zq1, zq2, zq3, zq4, zq5, zq6];first|assumption|omega))))|((with_reducible apply Step.pickF);exact rfl;exact rfl;exact rfl;exact rfl;(((simp only [zq1, zq2, zq3, zq4, zq5, zq6];first|assumption|omega))))|((with_reducible apply Step.alloc 0);exact rfl;exact ze33;exact rfl;((first|(simp only [zq7, zq8, zq9, zq0, iv_set, bv_set, iv_rep, bv_rep] <;> rfl)|rfl)))|((with_reducible apply Step.storeA (k := 0) (n := 5));exact rfl;exact rfl;exact rfl;exact rfl;((decide +kernel));exact rfl;((kernel_rfl));exact rfl;((first|(simp only [zq7, zq8, zq9, zq0, iv_set, bv_set, iv_rep, bv_rep] <;> rfl)|rfl))))|(with_reducible first|apply AWo.nil|apply AW.seq|apply Then.n|apply AW.regL|apply AW.block|apply AW.skip)|((with_reducible apply AW.condT);exact rfl;((first|rfl|(simp only [zq1, zq2, zq3, zq4, zq5, zq6];first|assumption|omega))))))
    (refine AW.retD (l := [(2, _)]) (by repeat (first | exact trivial | (refine And.intro ⟨rfl, by (exact .bool _)⟩ ?_))) ?_; (repeat (first | refine Then.r ?_ | refine InBlk.r ?_)))
    exact ⟨_, rfl, by rw [e], rfl⟩
   by_cases h4 : kh < 1
   ·(repeat (first|(with_reducible refine AWo.cons ?_)|((with_reducible refine Step.id ?_);first|((with_reducible apply Step.gdT);exact rfl;exact rfl;(((simp only [zq1, zq2, zq3, zq4, zq5, zq6];first|assumption|omega))))|((with_reducible apply Step.gdF);exact rfl;exact rfl;((first|rfl|(simp only [zq1, zq2, zq3, zq4, zq5, zq6];first|assumption|omega))))|((with_reducible apply Step.move);exact rfl;exact rfl)|((with_reducible apply Step.assign);exact rfl;exact rfl)|((with_reducible apply Step.load);exact rfl;((decide +kernel));exact rfl;((exact Rd.new rfl rfl)))|((with_reducible apply Step.loadL (n := 5));exact rfl;((decide +kernel));((decide +kernel));exact rfl;((exact RdL.old _ (by assumption)));exact rfl;exact rfl)|((with_reducible apply Step.ix (s := 5));exact rfl;((assumption));exact rfl;((decide +kernel));exact rfl;((omega)))|((with_reducible apply Step.field0);exact rfl;((decide +kernel));exact rfl)|((with_reducible apply Step.field (k := 1));exact rfl;((decide +kernel));exact rfl)|((with_reducible apply Step.lss);exact rfl;exact rfl;exact rfl)|((with_reducible apply Step.gtr);exact rfl;exact rfl;exact rfl)|((with_reducible apply Step.pickT);exact rfl;exact rfl;exact rfl;exact rfl;((first|rfl|(simp only [zq1, zq2, zq3, zq4, zq5, zq6];first|assumption|omega))))|((with_reducible apply Step.pickF);exact rfl;exact rfl;exact rfl;exact rfl;(((simp only [zq1, zq2, zq3, zq4, zq5, zq6];first|assumption|omega))))|((with_reducible apply Step.alloc 0);exact rfl;exact ze33;exact rfl;((first|(simp only [zq7, zq8, zq9, zq0, iv_set, bv_set, iv_rep, bv_rep] <;> rfl)|rfl)))|((with_reducible apply Step.storeA (k := 0) (n := 5));exact rfl;exact rfl;exact rfl;exact rfl;((decide +kernel));exact rfl;((kernel_rfl));exact rfl;((first|(simp only [zq7, zq8, zq9, zq0, iv_set, bv_set, iv_rep, bv_rep] <;> rfl)|rfl))))|(with_reducible first|apply AWo.nil|apply AW.seq|apply Then.n|apply AW.regL|apply AW.block|apply AW.skip)|((with_reducible apply AW.condT);exact rfl;((first|rfl|(simp only [zq1, zq2, zq3, zq4, zq5, zq6];first|assumption|omega))))))
    (refine AW.retD (l := [(2, _)]) (by repeat (first | exact trivial | (refine And.intro ⟨rfl, by (exact .bool _)⟩ ?_))) ?_; (repeat (first | refine Then.r ?_ | refine InBlk.r ?_)))
    exact ⟨_, rfl, by rw [e], rfl⟩
   by_cases h5 : 16 < kh
   ·(repeat (first|(with_reducible refine AWo.cons ?_)|((with_reducible refine Step.id ?_);first|((with_reducible apply Step.gdT);exact rfl;exact rfl;(((simp only [zq1, zq2, zq3, zq4, zq5, zq6];first|assumption|omega))))|((with_reducible apply Step.gdF);exact rfl;exact rfl;((first|rfl|(simp only [zq1, zq2, zq3, zq4, zq5, zq6];first|assumption|omega))))|((with_reducible apply Step.move);exact rfl;exact rfl)|((with_reducible apply Step.assign);exact rfl;exact rfl)|((with_reducible apply Step.load);exact rfl;((decide +kernel));exact rfl;((exact Rd.new rfl rfl)))|((with_reducible apply Step.loadL (n := 5));exact rfl;((decide +kernel));((decide +kernel));exact rfl;((exact RdL.old _ (by assumption)));exact rfl;exact rfl)|((with_reducible apply Step.ix (s := 5));exact rfl;((assumption));exact rfl;((decide +kernel));exact rfl;((omega)))|((with_reducible apply Step.field0);exact rfl;((decide +kernel));exact rfl)|((with_reducible apply Step.field (k := 1));exact rfl;((decide +kernel));exact rfl)|((with_reducible apply Step.lss);exact rfl;exact rfl;exact rfl)|((with_reducible apply Step.gtr);exact rfl;exact rfl;exact rfl)|((with_reducible apply Step.pickT);exact rfl;exact rfl;exact rfl;exact rfl;((first|rfl|(simp only [zq1, zq2, zq3, zq4, zq5, zq6];first|assumption|omega))))|((with_reducible apply Step.pickF);exact rfl;exact rfl;exact rfl;exact rfl;(((simp only [zq1, zq2, zq3, zq4, zq5, zq6];first|assumption|omega))))|((with_reducible apply Step.alloc 0);exact rfl;exact ze33;exact rfl;((first|(simp only [zq7, zq8, zq9, zq0, iv_set, bv_set, iv_rep, bv_rep] <;> rfl)|rfl)))|((with_reducible apply Step.storeA (k := 0) (n := 5));exact rfl;exact rfl;exact rfl;exact rfl;((decide +kernel));exact rfl;((kernel_rfl));exact rfl;((first|(simp only [zq7, zq8, zq9, zq0, iv_set, bv_set, iv_rep, bv_rep] <;> rfl)|rfl))))|(with_reducible first|apply AWo.nil|apply AW.seq|apply Then.n|apply AW.regL|apply AW.block|apply AW.skip)|((with_reducible apply AW.condT);exact rfl;((first|rfl|(simp only [zq1, zq2, zq3, zq4, zq5, zq6];first|assumption|omega))))))
    (refine AW.retD (l := [(2, _)]) (by repeat (first | exact trivial | (refine And.intro ⟨rfl, by (exact .bool _)⟩ ?_))) ?_; (repeat (first | refine Then.r ?_ | refine InBlk.r ?_)))
    exact ⟨_, rfl, by rw [e], rfl⟩
   by_cases h6 : kg < 1
   ·(repeat (first|(with_reducible refine AWo.cons ?_)|((with_reducible refine Step.id ?_);first|((with_reducible apply Step.gdT);exact rfl;exact rfl;(((simp only [zq1, zq2, zq3, zq4, zq5, zq6];first|assumption|omega))))|((with_reducible apply Step.gdF);exact rfl;exact rfl;((first|rfl|(simp only [zq1, zq2, zq3, zq4, zq5, zq6];first|assumption|omega))))|((with_reducible apply Step.move);exact rfl;exact rfl)|((with_reducible apply Step.assign);exact rfl;exact rfl)|((with_reducible apply Step.load);exact rfl;((decide +kernel));exact rfl;((exact Rd.new rfl rfl)))|((with_reducible apply Step.loadL (n := 5));exact rfl;((decide +kernel));((decide +kernel));exact rfl;((exact RdL.old _ (by assumption)));exact rfl;exact rfl)|((with_reducible apply Step.ix (s := 5));exact rfl;((assumption));exact rfl;((decide +kernel));exact rfl;((omega)))|((with_reducible apply Step.field0);exact rfl;((decide +kernel));exact rfl)|((with_reducible apply Step.field (k := 1));exact rfl;((decide +kernel));exact rfl)|((with_reducible apply Step.field (k := 2));exact rfl;((decide +kernel));exact rfl)|((with_reducible apply Step.lss);exact rfl;exact rfl;exact rfl)|((with_reducible apply Step.gtr);exact rfl;exact rfl;exact rfl)|((with_reducible apply Step.pickT);exact rfl;exact rfl;exact rfl;exact rfl;((first|rfl|(simp only [zq1, zq2, zq3, zq4, zq5, zq6];first|assumption|omega))))|((with_reducible apply Step.pickF);exact rfl;exact rfl;exact rfl;exact rfl;(((simp only [zq1, zq2, zq3, zq4, zq5, zq6];first|assumption|omega))))|((with_reducible apply Step.alloc 0);exact rfl;exact ze33;exact rfl;((first|(simp only [zq7, zq8, zq9, zq0, iv_set, bv_set, iv_rep, bv_rep] <;> rfl)|rfl)))|((with_reducible apply Step.storeA (k := 0) (n := 5));exact rfl;exact rfl;exact rfl;exact rfl;((decide +kernel));exact rfl;((kernel_rfl));exact rfl;((first|(simp only [zq7, zq8, zq9, zq0, iv_set, bv_set, iv_rep, bv_rep] <;> rfl)|rfl))))|(with_reducible first|apply AWo.nil|apply AW.seq|apply Then.n|apply AW.regL|apply AW.block|apply AW.skip)|((with_reducible apply AW.condT);exact rfl;((first|rfl|(simp only [zq1, zq2, zq3, zq4, zq5, zq6];first|assumption|omega))))))
    (refine AW.retD (l := [(2, _)]) (by repeat (first | exact trivial | (refine And.intro ⟨rfl, by (exact .bool _)⟩ ?_))) ?_; (repeat (first | refine Then.r ?_ | refine InBlk.r ?_)))
    exact ⟨_, rfl, by rw [e], rfl⟩
   by_cases h7 : 9 < kg
   ·(repeat (first|(with_reducible refine AWo.cons ?_)|((with_reducible refine Step.id ?_);first|((with_reducible apply Step.gdT);exact rfl;exact rfl;(((simp only [zq1, zq2, zq3, zq4, zq5, zq6];first|assumption|omega))))|((with_reducible apply Step.gdF);exact rfl;exact rfl;((first|rfl|(simp only [zq1, zq2, zq3, zq4, zq5, zq6];first|assumption|omega))))|((with_reducible apply Step.move);exact rfl;exact rfl)|((with_reducible apply Step.assign);exact rfl;exact rfl)|((with_reducible apply Step.load);exact rfl;((decide +kernel));exact rfl;((exact Rd.new rfl rfl)))|((with_reducible apply Step.loadL (n := 5));exact rfl;((decide +kernel));((decide +kernel));exact rfl;((exact RdL.old _ (by assumption)));exact rfl;exact rfl)|((with_reducible apply Step.ix (s := 5));exact rfl;((assumption));exact rfl;((decide +kernel));exact rfl;((omega)))|((with_reducible apply Step.field0);exact rfl;((decide +kernel));exact rfl)|((with_reducible apply Step.field (k := 1));exact rfl;((decide +kernel));exact rfl)|((with_reducible apply Step.field (k := 2));exact rfl;((decide +kernel));exact rfl)|((with_reducible apply Step.lss);exact rfl;exact rfl;exact rfl)|((with_reducible apply Step.gtr);exact rfl;exact rfl;exact rfl)|((with_reducible apply Step.pickT);exact rfl;exact rfl;exact rfl;exact rfl;((first|rfl|(simp only [zq1, zq2, zq3, zq4, zq5, zq6];first|assumption|omega))))|((with_reducible apply Step.pickF);exact rfl;exact rfl;exact rfl;exact rfl;(((simp only [zq1, zq2, zq3, zq4, zq5, zq6];first|assumption|omega))))|((with_reducible apply Step.alloc 0);exact rfl;exact ze33;exact rfl;((first|(simp only [zq7, zq8, zq9, zq0, iv_set, bv_set, iv_rep, bv_rep] <;> rfl)|rfl)))|((with_reducible apply Step.storeA (k := 0) (n := 5));exact rfl;exact rfl;exact rfl;exact rfl;((decide +kernel));exact rfl;((kernel_rfl));exact rfl;((first|(simp only [zq7, zq8, zq9, zq0, iv_set, bv_set, iv_rep, bv_rep] <;> rfl)|rfl))))|(with_reducible first|apply AWo.nil|apply AW.seq|apply Then.n|apply AW.regL|apply AW.block|apply AW.skip)|((with_reducible apply AW.condT);exact rfl;((first|rfl|(simp only [zq1, zq2, zq3, zq4, zq5, zq6];first|assumption|omega))))))
    (refine AW.retD (l := [(2, _)]) (by repeat (first | exact trivial | (refine And.intro ⟨rfl, by (exact .bool _)⟩ ?_))) ?_; (repeat (first | refine Then.r ?_ | refine InBlk.r ?_)))
    exact ⟨_, rfl, by rw [e], rfl⟩
   by_cases h8 : ko < 1
   ·(repeat (first|(with_reducible refine AWo.cons ?_)|((with_reducible refine Step.id ?_);first|((with_reducible apply Step.gdT);exact rfl;exact rfl;(((simp only [zq1, zq2, zq3, zq4, zq5, zq6];first|assumption|omega))))|((with_reducible apply Step.gdF);exact rfl;exact rfl;(((simp only [zq1, zq2, zq3, zq4, zq5, zq6];first|assumption|omega))))|((with_reducible apply Step.move);exact rfl;exact rfl)|((with_reducible apply Step.assign);exact rfl;exact rfl)|((with_reducible apply Step.load);exact rfl;((decide +kernel));exact rfl;((exact Rd.new rfl rfl)))|((with_reducible apply Step.loadL (n := 5));exact rfl;((decide +kernel));((decide +kernel));exact rfl;((exact RdL.old _ (by assumption)));exact rfl;exact rfl)|((with_reducible apply Step.ix (s := 5));exact rfl;((assumption));exact rfl;((decide +kernel));exact rfl;((omega)))|((with_reducible apply Step.field0);exact rfl;((decide +kernel));exact rfl)|((with_reducible apply Step.field (k := 1));exact rfl;((decide +kernel));exact rfl)|((with_reducible apply Step.field (k := 2));exact rfl;((decide +kernel));exact rfl)|((with_reducible apply Step.field (k := 3));exact rfl;((decide +kernel));exact rfl)|((with_reducible apply Step.lss);exact rfl;exact rfl;exact rfl)|((with_reducible apply Step.gtr);exact rfl;exact rfl;exact rfl)|((with_reducible apply Step.pickT);exact rfl;exact rfl;exact rfl;exact rfl;(((simp only [zq1, zq2, zq3, zq4, zq5, zq6];first|assumption|omega))))|((with_reducible apply Step.pickF);exact rfl;exact rfl;exact rfl;exact rfl;(((simp only [zq1, zq2, zq3, zq4, zq5, zq6];first|assumption|omega))))|((with_reducible apply Step.alloc 0);exact rfl;exact ze33;exact rfl;((first|(simp only [zq7, zq8, zq9, zq0, iv_set, bv_set, iv_rep, bv_rep] <;> rfl)|rfl)))|((with_reducible apply Step.storeA (k := 0) (n := 5));exact rfl;exact rfl;exact rfl;exact rfl;((decide +kernel));exact rfl;((kernel_rfl));exact rfl;((first|(simp only [zq7, zq8, zq9, zq0, iv_set, bv_set, iv_rep, bv_rep] <;> rfl)|rfl))))|(with_reducible first|apply AWo.nil|apply AW.seq|apply Then.n|apply AW.regL|apply AW.block|apply AW.skip)|((with_reducible apply AW.condT);exact rfl;((first|rfl|(simp only [zq1, zq2, zq3, zq4, zq5, zq6];first|assumption|omega))))))
    (refine AW.retD (l := [(2, _)]) (by repeat (first | exact trivial | (refine And.intro ⟨rfl, by (exact .bool _)⟩ ?_))) ?_; (repeat (first | refine Then.r ?_ | refine InBlk.r ?_)))
    exact ⟨_, rfl, by rw [e], rfl⟩
   have h9 : 1000000 < ko := by omega
   (repeat (first|(with_reducible refine AWo.cons ?_)|((with_reducible refine Step.id ?_);first|((with_reducible apply Step.gdT);exact rfl;exact rfl;(((simp only [zq1, zq2, zq3, zq4, zq5, zq6];first|assumption|omega))))|((with_reducible apply Step.move);exact rfl;exact rfl)|((with_reducible apply Step.assign);exact rfl;exact rfl)|((with_reducible apply Step.load);exact rfl;((decide +kernel));exact rfl;((exact Rd.new rfl rfl)))|((with_reducible apply Step.loadL (n := 5));exact rfl;((decide +kernel));((decide +kernel));exact rfl;((exact RdL.old _ (by assumption)));exact rfl;exact rfl)|((with_reducible apply Step.ix (s := 5));exact rfl;((assumption));exact rfl;((decide +kernel));exact rfl;((omega)))|((with_reducible apply Step.field0);exact rfl;((decide +kernel));exact rfl)|((with_reducible apply Step.field (k := 1));exact rfl;((decide +kernel));exact rfl)|((with_reducible apply Step.field (k := 2));exact rfl;((decide +kernel));exact rfl)|((with_reducible apply Step.field (k := 3));exact rfl;((decide +kernel));exact rfl)|((with_reducible apply Step.lss);exact rfl;exact rfl;exact rfl)|((with_reducible apply Step.gtr);exact rfl;exact rfl;exact rfl)|((with_reducible apply Step.pickF);exact rfl;exact rfl;exact rfl;exact rfl;(((simp only [zq1, zq2, zq3, zq4, zq5, zq6];first|assumption|omega))))|((with_reducible apply Step.alloc 0);exact rfl;exact ze33;exact rfl;((first|(simp only [zq7, zq8, zq9, zq0, iv_set, bv_set, iv_rep, bv_rep] <;> rfl)|rfl)))|((with_reducible apply Step.storeA (k := 0) (n := 5));exact rfl;exact rfl;exact rfl;exact rfl;((decide +kernel));exact rfl;((kernel_rfl));exact rfl;((first|(simp only [zq7, zq8, zq9, zq0, iv_set, bv_set, iv_rep, bv_rep] <;> rfl)|rfl))))|(with_reducible first|apply AWo.nil|apply AW.seq|apply Then.n|apply AW.regL|apply AW.block|apply AW.skip)|((with_reducible apply AW.condT);exact rfl;(((simp only [zq1, zq2, zq3, zq4, zq5, zq6];first|assumption|omega))))))
   (refine AW.retD (l := [(2, _)]) (by repeat (first | exact trivial | (refine And.intro ⟨rfl, by (exact .bool _)⟩ ?_))) ?_; (repeat (first | refine Then.r ?_ | refine InBlk.r ?_)))
   exact ⟨_, rfl, by rw [e], rfl⟩
  | true =>
   have hkk := kdB_in hkd
   have hd' : ∀ j, j < i + 1 → kdB (K.getD j default) = true := fun j hj => by
    rcases Nat.lt_succ_iff_lt_or_eq.1 hj with h | rfl
    ·exact hd j h
    ·exact hkd
   generalize K.getD i default = k at rk hkk
   obtain ⟨kw, kh, kg, ko, kt⟩ := k
   simp only at hkk
   simp only [Kd.cells] at rk
   (repeat (first|(with_reducible refine AWo.cons ?_)|((with_reducible refine Step.id ?_);first|((with_reducible apply Step.gdT);exact rfl;exact rfl;(((simp only [zq1, zq2, zq3, zq4, zq5, zq6];first|assumption|omega))))|((with_reducible apply Step.move);exact rfl;exact rfl)|((with_reducible apply Step.load);exact rfl;((decide +kernel));exact rfl;((exact Rd.new rfl rfl)))|((with_reducible apply Step.loadL (n := 5));exact rfl;((decide +kernel));((decide +kernel));exact rfl;((exact RdL.old _ (by assumption)));exact rfl;exact rfl)|((with_reducible apply Step.ix (s := 5));exact rfl;((assumption));exact rfl;((decide +kernel));exact rfl;((omega)))|((with_reducible apply Step.field0);exact rfl;((decide +kernel));exact rfl)|((with_reducible apply Step.field (k := 1));exact rfl;((decide +kernel));exact rfl)|((with_reducible apply Step.field (k := 2));exact rfl;((decide +kernel));exact rfl)|((with_reducible apply Step.field (k := 3));exact rfl;((decide +kernel));exact rfl)|((with_reducible apply Step.add);exact rfl;exact rfl;((omega));exact rfl)|((with_reducible apply Step.lss);exact rfl;exact rfl;exact rfl)|((with_reducible apply Step.gtr);exact rfl;exact rfl;exact rfl)|((with_reducible apply Step.pickF);exact rfl;exact rfl;exact rfl;exact rfl;(((simp only [zq1, zq2, zq3, zq4, zq5, zq6];first|assumption|omega))))|((with_reducible apply Step.alloc 0);exact rfl;exact ze33;exact rfl;((first|(simp only [zq7, zq8, zq9, zq0, iv_set, bv_set, iv_rep, bv_rep] <;> rfl)|rfl)))|((with_reducible apply Step.storeA (k := 0) (n := 5));exact rfl;exact rfl;exact rfl;exact rfl;((decide +kernel));exact rfl;((kernel_rfl));exact rfl;((first|(simp only [zq7, zq8, zq9, zq0, iv_set, bv_set, iv_rep, bv_rep] <;> rfl)|rfl))))|(with_reducible first|apply AWo.nil|apply AW.seq|apply Then.n|apply AW.regL|apply AW.block|apply InBlk.n|apply AW.skip)|((with_reducible apply AW.condT);exact rfl;(((simp only [zq1, zq2, zq3, zq4, zq5, zq6];first|assumption|omega))))|((with_reducible apply AW.condF);exact rfl;(((simp only [zq1, zq2, zq3, zq4, zq5, zq6];first|assumption|omega))))))
   exact ⟨_, _, [], by omega, (Back.trim rfl rfl (by repeat (exact CellsOk.nil)) (by repeat (first | exact trivial | (refine And.intro ⟨rfl, by (first | exact Low.rid (by assumption) (by simp) | exact .int _ _)⟩ ?_)))), i + 1, rfl, by omega, rfl, hd', rfl⟩
 ·obtain rfl : i = K.length := by omega
  (repeat (first|(with_reducible refine AWo.cons ?_)|((with_reducible refine Step.id ?_);first|((with_reducible apply Step.assign);exact rfl;exact rfl)|((with_reducible apply Step.lss);exact rfl;exact rfl;exact rfl))|(with_reducible first|apply AWo.nil|apply AW.seq|apply Then.n|apply AW.regL|apply AW.exit|apply InBlk.hit|apply Then.e)|((with_reducible apply AW.condF);exact rfl;(((simp only [zq1, zq2, zq3, zq4, zq5, zq6];first|assumption|omega))))))
  (refine AW.retD (l := [(2, _)]) (by repeat (first | exact trivial | (refine And.intro ⟨rfl, by (exact .bool _)⟩ ?_))) ?_; (repeat (first | refine Then.r ?_ | refine InBlk.r ?_)))
  exact ⟨_, rfl, by rw [kinds_all (by omega) hd], rfl⟩
set_option maxRecDepth 100000 in
theorem RGood_ok {m : AM} {sv kv : Value} {B : Brd} {K : List Kd} (hs : Strs m sv B) (hk : Kds m kv K) : ACall Tryd.prog 8 #[sv, kv] m (Ret (.bool (goodB B K)) m) := by
 have h1 := fun T => RBoard_ok (hs.old T)
 have h2 := fun T => RKinds_ok (hk.old T)
 refine ACall.start Tryd.func8 rfl rfl ?_
 cases hb : boardB B with
 | false =>
  rw [hb] at h1
  (repeat (first|(with_reducible refine AWo.cons ?_)|((with_reducible refine Step.id ?_);first|((with_reducible apply Step.gdF);exact rfl;exact rfl;((rfl)))|((with_reducible apply Step.move);exact rfl;exact rfl)|((with_reducible apply Step.assign);exact rfl;exact rfl)|((with_reducible apply Step.pickF);exact rfl;exact rfl;exact rfl;exact rfl;((rfl)))|((with_reducible apply Step.callR fit);exact rfl;exact Tryd.func32;exact rfl;exact rfl;exact (h1 _)))|(with_reducible first|apply AWo.nil|apply AW.seq|apply Then.n|apply AW.regL)))
  (refine AW.retD (l := [(4, _)]) (by repeat (first | exact trivial | (refine And.intro ⟨rfl, by (exact .bool _)⟩ ?_))) ?_; (repeat (first | refine Then.r ?_ | refine InBlk.r ?_)))
  exact ⟨_, rfl, by simp [goodB, hb], rfl⟩
 | true =>
  rw [hb] at h1
  (repeat (first|(with_reducible refine AWo.cons ?_)|((with_reducible refine Step.id ?_);first|((with_reducible apply Step.gdT);exact rfl;exact rfl;((rfl)))|((with_reducible apply Step.move);exact rfl;exact rfl)|((with_reducible apply Step.assign);exact rfl;exact rfl)|((with_reducible apply Step.pickT);exact rfl;exact rfl;exact rfl;exact rfl;((rfl)))|((with_reducible apply Step.callR fit);exact rfl;exact Tryd.func32;exact rfl;exact rfl;exact (h1 _))|((with_reducible apply Step.callR fit);exact rfl;exact Tryd.func33;exact rfl;exact rfl;exact (h2 _)))|(with_reducible first|apply AWo.nil|apply AW.seq|apply Then.n|apply AW.regL)))
  (refine AW.retD (l := [(4, _)]) (by repeat (first | exact trivial | (refine And.intro ⟨rfl, by (exact .bool _)⟩ ?_))) ?_; (repeat (first | refine Then.r ?_ | refine InBlk.r ?_)))
  exact ⟨_, rfl, by simp [goodB, hb], rfl⟩
set_option maxRecDepth 100000 in
theorem RGrade_ok {m : AM} {sv : Value} {B : Brd} (hs : Strs m sv B) (hv : skinB B = true) {x y : Nat} (hy : y < bh B) (hx : x < bw B) :
  ACall Tryd.prog 15 #[sv, .int .i64 (x : Nat), .int .i64 (y : Nat)] m (Ret (.int .i64 (gr B x y)) m) := by
 obtain ⟨A, O, sl, la, rd⟩ := hs
 obtain ⟨z1, z2⟩ := skin_row hv hy
 have z3 := z2 x hx
 have rk := rd y hy
 unfold bh at hy
 have r0 := rd 0 (by omega)
 have z4 : (rowOf B 0).size = bw B := rfl
 refine ACall.start Tryd.func15 rfl rfl ?_
 (repeat (first|(with_reducible refine AWo.cons ?_)|((with_reducible refine Step.id ?_);first|((with_reducible apply Step.gdT);exact rfl;exact rfl;((first|rfl|(simp only [zq1, zq2, zq3, zq4, zq5, zq6];first|assumption|omega))))|((with_reducible apply Step.move);exact rfl;exact rfl)|((with_reducible apply Step.assign);exact rfl;exact rfl)|((with_reducible apply Step.load);exact rfl;((decide +kernel));exact rfl;((exact Rd.old _ (by assumption))))|((with_reducible apply Step.ix1);exact rfl;((assumption));exact rfl;((decide +kernel));exact rfl;((omega)))|((with_reducible apply Step.ix1 (k := 0));exact rfl;((assumption));exact rfl;((decide +kernel));exact rfl;((omega)))|((with_reducible apply Step.strIx);exact rfl;exact rfl;exact un9;((omega));exact rfl)|((with_reducible apply Step.lenS);exact rfl;exact un9;exact rfl)|((with_reducible apply Step.subU);exact rfl;exact rfl;((omega));exact rfl)|((with_reducible apply Step.u8I);exact rfl;exact un5;exact un3;((omega));exact rfl)|((with_reducible apply Step.lss);exact rfl;exact rfl;exact rfl)|((with_reducible apply Step.geq);exact rfl;exact rfl;exact rfl)|((with_reducible apply Step.len);exact rfl;((assumption));((decide +kernel));exact rfl)|((with_reducible apply Step.pickF);exact rfl;exact rfl;exact rfl;exact rfl;((first|rfl|(simp only [zq1, zq2, zq3, zq4, zq5, zq6];first|assumption|omega)))))|(with_reducible first|apply AWo.nil|apply AW.seq|apply Then.n|apply AW.regL|apply AW.skip)|((with_reducible apply AW.condF);exact rfl;(((simp only [zq1, zq2, zq3, zq4, zq5, zq6];first|assumption|omega))))))
 (refine AW.retD (l := [(6, _)]) (by repeat (first | exact trivial | (refine And.intro ⟨rfl, by (exact .int _ _)⟩ ?_))) ?_; (repeat (first | refine Then.r ?_ | refine InBlk.r ?_)))
 exact ⟨_, rfl, rfl, rfl⟩
def kvc (l : List Kd) : List Value := l.flatMap Kd.cells
theorem kvc_len (l : List Kd) : (kvc l).length = l.length * 5 := by
 induction l with
 | nil => rfl
 | cons k l ih =>
  have : kvc (k :: l) = k.cells ++ kvc l := rfl
  rw [this, List.length_append, ih]
  simp [Kd.cells]
  omega
theorem kvc_snoc (l : List Kd) (k : Kd) : kvc (l ++ [k]) = kvc l ++ k.cells := by simp [kvc]
theorem kvc_get : ∀ (l : List Kd) (i : Nat), i < l.length → ∀ (j : Nat) (v : Value), (l.getD i default).cells[j]? = some v → (kvc l)[i * 5 + j]? = some v
 | [], i, hi, _, _, _ => by simp at hi
 | k :: l, 0, _, j, v, hj => by
  have : kvc (k :: l) = k.cells ++ kvc l := rfl
  change k.cells[j]? = some v at hj
  rw [this, Nat.zero_mul, Nat.zero_add, List.getElem?_append_left (List.getElem?_eq_some_iff.1 hj).1]
  exact hj
 | k :: l, i + 1, hi, j, v, hj => by
  have e : kvc (k :: l) = k.cells ++ kvc l := rfl
  have hl : k.cells.length = 5 := rfl
  rw [e, List.getElem?_append_right (by omega), hl, show (i + 1) * 5 + j - 5 = i * 5 + j by omega]
  exact kvc_get l i (by simpa using hi) j v hj
theorem g0_kvc (l : List Kd) : ∀ v ∈ kvc l, g0 v = true := fun v hv => by
 simp only [kvc, List.mem_flatMap] at hv
 obtain ⟨k, _, hk⟩ := hv
 simp [Kd.cells] at hk
 rcases hk with rfl | rfl | rfl | rfl | rfl <;> rfl
theorem good_take (B : Brd) (K : List Kd) : goodB B (K.take 14) = goodB B K := by
 rcases Nat.lt_or_ge 14 K.length with h | h
 ·have h1 : kindsB K = false := by simp [kindsB]; omega
  have h2 : kindsB (K.take 14) = false := by simp [kindsB]; omega
  simp [goodB, h1, h2]
 ·rw [List.take_of_length_le h]
theorem bl99b {a b c d : Int} {t : Bool} : abuild Tryd.prog 77 [(0, .int .i64 a), (1, .int .i64 b), (2, .int .i64 c), (3, .int .i64 d), (4, .bool t)] = some (.agg #[.int .i64 a, .int .i64 b, .int .i64 c, .int .i64 d, .bool t]) := by kernel_rfl
theorem bs35x {m : AM} {k : Nat} {a b c d : Int} {t : Bool} : abuildSlice Tryd.prog m k 35 1 [(0, .agg #[.int .i64 a, .int .i64 b, .int .i64 c, .int .i64 d, .bool t])] = some (.slice (some ⟨k, 0, none⟩) 1 1, m.set k (some { cells := [.int .i64 a, .int .i64 b, .int .i64 c, .int .i64 d, .bool t] })) := by kernel_rfl
theorem el35 : elemB Tryd.prog 35 = some (77, 5, 40, #[.int .i64 0, .int .i64 0, .int .i64 0, .int .i64 0, .bool false]) := by kernel_rfl
theorem un35 : Tryd.prog.underlying 35 = some (.slice 77) := by kernel_rfl
set_option maxHeartbeats 4000000 in
set_option maxRecDepth 100000 in
theorem of_ok {m : AM} {kv : Value} {K : List Kd} (hk : Kds m kv K) (hlen : K.length ≤ 9223372036854775807) : ACall Tryd.prog 13 #[kv] m (NewG (kvc (K.take 14)) 5 (K.take 14).length m) := by
 obtain ⟨A, O, sl, la, rd⟩ := hk
 obtain ⟨q, c, rfl⟩ := sl.shape
 have wl : Low m.length (.slice q K.length c) := Low.of_sl sl la
 refine ACall.start Tryd.func13 rfl rfl ?_
 (repeat (first|(with_reducible refine AWo.cons ?_)|((with_reducible refine Step.id ?_);first|((with_reducible apply Step.move);exact rfl;exact rfl)|((with_reducible apply Step.assign);exact rfl;exact rfl)|((with_reducible apply Step.len);exact rfl;((assumption));((decide +kernel));exact rfl))|(with_reducible first|apply AWo.nil|apply AW.seq|apply Then.n|apply AW.regL|apply AW.block)))
 refine AW.loopT (fun n t L => ∃ i : Nat, n = K.length - i ∧ i ≤ K.length ∧ i ≤ 14 ∧ L = [gb (kvc (K.take i)) 5] ∧
  t = [(0, .slice q K.length c), (3, gv (m.length + 0) i), (6, .slice q K.length c), (7, .int .i64 (K.length : Nat)), (8, .int .i64 (i : Nat))])
  ⟨_, _, [none], (Back.padC rfl (by repeat (first | exact trivial | (refine And.intro ⟨rfl, by (first | exact Low.rid (by assumption) (by simp) | exact .int _ _ | exact Ren.of_gv (by first | (simp; done) | omega | (simp; omega)))⟩ ?_))) (by repeat (exact CellsP.nil))), 0, rfl, Nat.zero_le _, Nat.zero_le _, rfl, rfl⟩ ?_
 rintro n t L ⟨i, rfl, hi, hi14, rfl, rfl⟩
 rcases Nat.lt_or_ge i K.length with hlt | hge
 ·have rk := rd i hlt
  have hs : K.take (i + 1) = K.take i ++ [K.getD i default] := take_snoc K i default hlt
  generalize K.getD i default = k at rk hs
  obtain ⟨kw, kh, kg, ko, kt⟩ := k
  simp only [Kd.cells] at rk
  by_cases h13 : 13 < i
  ·obtain rfl : i = 14 := by omega
   have hg0 := g0_kvc (K.take 14)
   (repeat (first|(with_reducible refine AWo.cons ?_)|((with_reducible refine Step.id ?_);first|((with_reducible apply Step.move);exact rfl;exact rfl)|((with_reducible apply Step.assign);exact rfl;exact rfl)|((with_reducible apply Step.loadL (n := 5));exact rfl;((decide +kernel));((decide +kernel));exact rfl;((exact RdL.old _ (by assumption)));exact rfl;exact rfl)|((with_reducible apply Step.ix (s := 5));exact rfl;((assumption));exact rfl;((decide +kernel));exact rfl;((omega)))|((with_reducible apply Step.lss);exact rfl;exact rfl;exact rfl)|((with_reducible apply Step.gtr);exact rfl;exact rfl;exact rfl)|((with_reducible apply Step.alloc 1);exact rfl;exact ze33;exact rfl;((first|(simp only [zq7, zq8, zq9, zq0, iv_set, bv_set, iv_rep, bv_rep] <;> rfl)|rfl)))|((with_reducible apply Step.storeA (k := 1) (n := 5));exact rfl;exact rfl;exact rfl;exact rfl;((decide +kernel));exact rfl;((kernel_rfl));exact rfl;((first|(simp only [zq7, zq8, zq9, zq0, iv_set, bv_set, iv_rep, bv_rep] <;> rfl)|rfl))))|(with_reducible first|apply AWo.nil|apply AW.seq|apply Then.n|apply AW.regL|apply AW.block|apply AW.exit|apply InBlk.hit)|((with_reducible apply InBlk.miss);exact rfl)|(with_reducible first|apply Then.e|apply AW.skip)|((with_reducible apply AW.condT);exact rfl;((first|rfl|(simp only [zq1, zq2, zq3, zq4, zq5, zq6];first|assumption|omega))))))
   refine AW.retT (l := [(2, gv (m.length + 0) 14)]) (L1 := [gb (kvc (K.take 14)) 5]) (L2 := [_]) rfl (by repeat (first | exact CellsOk.nil | refine CellsOk.gb (by assumption) ?_)) (by repeat (first | exact trivial | (refine And.intro ⟨rfl, by (exact Ren.of_gv (by first | (simp; done) | omega | (simp; omega)))⟩ ?_))) ?_
   exact ⟨_, rfl, by rw [List.length_take, Nat.min_eq_left (by omega)], rfl⟩
  ·have hpl : (kvc (K.take i)).length = i * 5 := by rw [kvc_len, List.length_take]; congr 1; omega
   have hg0 := g0_kvc (K.take (i + 1))
   have hcc : kvc (K.take (i + 1)) = kvc (K.take i) ++ [.int .i64 kw, .int .i64 kh, .int .i64 kg, .int .i64 ko, .bool kt] := by rw [hs, kvc_snoc]; rfl
   rw [hcc] at hg0
   (repeat (first|(with_reducible refine AWo.cons ?_)|((with_reducible refine Step.id ?_);first|((with_reducible apply Step.move);exact rfl;exact rfl)|((with_reducible apply Step.assign);exact rfl;exact rfl)|((with_reducible apply Step.load);exact rfl;((decide +kernel));exact rfl;((exact Rd.new rfl rfl)))|((with_reducible apply Step.loadL (n := 5));exact rfl;((decide +kernel));((decide +kernel));exact rfl;((exact RdL.old _ (by assumption)));exact rfl;exact rfl)|((with_reducible apply Step.ix (s := 5));exact rfl;((assumption));exact rfl;((decide +kernel));exact rfl;((omega)))|((with_reducible apply Step.field0);exact rfl;((decide +kernel));exact rfl)|((with_reducible apply Step.field (k := 1));exact rfl;((decide +kernel));exact rfl)|((with_reducible apply Step.field (k := 2));exact rfl;((decide +kernel));exact rfl)|((with_reducible apply Step.field (k := 3));exact rfl;((decide +kernel));exact rfl)|((with_reducible apply Step.field (k := 4));exact rfl;((decide +kernel));exact rfl)|((with_reducible apply Step.lss);exact rfl;exact rfl;exact rfl)|((with_reducible apply Step.gtr);exact rfl;exact rfl;exact rfl)|((with_reducible apply Step.alloc 1);exact rfl;exact ze33;exact rfl;((first|(simp only [zq7, zq8, zq9, zq0, iv_set, bv_set, iv_rep, bv_rep] <;> rfl)|rfl)))|((with_reducible apply Step.storeA (k := 1) (n := 5));exact rfl;exact rfl;exact rfl;exact rfl;((decide +kernel));exact rfl;((kernel_rfl));exact rfl;((first|(simp only [zq7, zq8, zq9, zq0, iv_set, bv_set, iv_rep, bv_rep] <;> rfl)|rfl)))|((with_reducible apply Step.buildS 2);exact rfl;exact rfl;exact (fun _ _ => bs35x);exact rfl;((first|(simp only [zq7, zq8, zq9, zq0, iv_set, bv_set, iv_rep, bv_rep] <;> rfl)|rfl)))|((with_reducible apply Step.build);exact rfl;exact bl99b;exact rfl))|(with_reducible first|apply AWo.nil|apply AW.seq|apply Then.n|apply AW.regL|apply AW.block|apply AW.skip)|((with_reducible apply AW.condT);exact rfl;(((simp only [zq1, zq2, zq3, zq4, zq5, zq6];first|assumption|omega))))|((with_reducible apply AW.condF);exact rfl;(((simp only [zq1, zq2, zq3, zq4, zq5, zq6];first|assumption|omega))))))
   ((with_reducible apply Step.appG (k := 3) (q := 0) (r := 2) (n := i) (xl := 1));exact rfl;exact rfl;exact rfl;exact el35;exact un35;exact rfl;exact rfl;exact rfl;exact hpl;exact rfl;exact rfl;((kernel_rfl));((omega));exact rfl;((first|(simp only [zq7, zq8, zq9, zq0, iv_set, bv_set, iv_rep, bv_rep] <;> rfl)|rfl)))
   (repeat (first|(with_reducible refine AWo.cons ?_)|((with_reducible refine Step.id ?_);first|((with_reducible apply Step.move);exact rfl;exact rfl)|((with_reducible apply Step.assign);exact rfl;exact rfl)|((with_reducible apply Step.add);exact rfl;exact rfl;((omega));exact rfl))|(with_reducible first|apply AWo.nil|apply Then.n|apply AW.regL|apply InBlk.n)))
   exact ⟨_, [(0, .slice q K.length c), (3, .slice (some ⟨m.length + 0, 0, none⟩) (i + 1) (i + 1)), (6, .slice q K.length c), (7, .int .i64 (K.length : Nat)), (8, .int .i64 (i + 1 : Nat))], [some { cells := kvc (K.take i) ++ [.int .i64 kw, .int .i64 kh, .int .i64 kg, .int .i64 ko, .bool kt], kind := .grow, size := 5 }], by omega, (Back.mv 0 3 rfl rfl rfl rfl (by intro j b hj h; rcases j with _ | _ | _ | _ | _ | _ | j <;> simp_all) (by repeat (first | exact CellsOk.nil | refine CellsOk.cons (by assumption) ?_)) (by repeat (first | exact trivial | (refine And.intro ⟨_, rfl, by (first | exact Low.ne (by assumption) (by simp) | exact .int _ _ | exact Ren.slice_mv (by first | (simp; done) | omega | (simp; omega)))⟩ ?_)))), i + 1, rfl, by omega, by omega, by rw [hcc, gb_pos (by simp)], by rw [gv_pos (by omega)]⟩
 ·obtain rfl : i = K.length := by omega
  (repeat (first|(with_reducible refine AWo.cons ?_)|((with_reducible refine Step.id ?_);first|((with_reducible apply Step.move);exact rfl;exact rfl)|((with_reducible apply Step.assign);exact rfl;exact rfl)|((with_reducible apply Step.lss);exact rfl;exact rfl;exact rfl))|(with_reducible first|apply AWo.nil|apply AW.seq|apply Then.n|apply AW.regL|apply AW.exit|apply InBlk.hit|apply Then.e)|((with_reducible apply AW.condF);exact rfl;(((simp only [zq1, zq2, zq3, zq4, zq5, zq6];first|assumption|omega))))))
  (refine AW.retB (l := [(2, _)]) (Or.inl ⟨rfl, (by repeat (first | exact trivial | (refine And.intro rfl ?_)))⟩) ?_; (repeat (first | refine Then.r ?_ | refine InBlk.r ?_)))
  exact ⟨_, rfl, by rw [List.take_of_length_le hi14], by rw [List.take_of_length_le hi14, List.take_of_length_le (Nat.le_refl _)]⟩
end Go.Proofs.YtedbjmgchfgabaaDoor.Abs
namespace Go.Proofs.YtedbjmgchfgabaaDoor.Abs
set_option linter.unusedSimpArgs false
set_option linter.unusedVariables false
open Go.RowKit
open Go.Proofs.YtedbjmgchfgabaaDoor.Sim
open Go.ChangeShapes Go.WideShapes Go.Deep
def RelSelf (v : Value) : Prop := ∃ c, v = .agg c ∧ ∀ R, Rel R (.agg c) (.agg c)
def Okarg3 (W : World) (a : AR) : Prop := Okarg W a ∨ RelSelf a.1
theorem top_call3 {P : Program} {f : FuncId} {W : World} (ars : List AR) (h : ∀ a ∈ ars, Okarg3 W a) (hc : ACall P f (mkVs 0 ars).toArray (ars.map mkB) (Ret (.bool true) (ars.map mkB))) :
  Calls P f (ars.map (·.1)).toArray W fun e w' => e = .returned (.bool true) ∧ Below W.heap.size W w' := by
 let R : Pl := fun i => (ars[i]?).bind mkP
 have hm : MRep W.heap.size R (ars.map mkB) W := by
  refine ⟨fun i hi => ?_, fun i b hi => ?_, fun i j b c p q hi hj hb _ _ _ _ => ?_⟩
  ·simp only [List.length_map] at hi
   simp [R, List.getElem?_eq_none hi]
  ·rw [List.getElem?_map] at hi
   cases ha : ars[i]? with
   | none => rw [ha] at hi; cases hi
   | some a =>
    rw [ha] at hi
    simp only [Option.map_some, Option.some.injEq] at hi
    obtain ⟨v, c⟩ := a
    rcases h _ (List.mem_of_getElem? ha) with (h1 | ⟨bb, o, n, cap, h1, h2, h3, h4, h5⟩) | ⟨l, h1, hl⟩
    ·simp only at h1
     cases v with
     | slice x n cap => cases x with
      | none => simp [mkB] at hi
      | some x => simp [g0] at h1
     | _ => simp [mkB] at hi
    ·simp only at h1
     subst h1
     simp only [mkB, Option.some.injEq] at hi
     subst hi
     refine ⟨⟨bb, o, cap - n⟩, by simp [R, ha, mkP], h3, ?_⟩
     refine ⟨fun e => by simp at e, fun j x hj => ⟨x, h4 j x hj, g0_rel (h5 x (List.mem_of_getElem? hj))⟩⟩
    ·simp only at h1
     subst h1
     simp [mkB] at hi
  ·rw [List.getElem?_map] at hi
   cases ha : ars[i]? with
   | none => rw [ha] at hi; cases hi
   | some a =>
    rw [ha] at hi
    simp only [Option.map_some, Option.some.injEq] at hi
    obtain ⟨v, c'⟩ := a
    cases v with
    | slice x n cap => cases x with
     | none => simp [mkB] at hi
     | some x => simp only [mkB, Option.some.injEq] at hi; subst hi; cases hb
    | _ => simp [mkB] at hi
 have hargs : Rels R (mkVs 0 ars).toArray (ars.map (·.1)).toArray := by
  refine ⟨by simp [mkVs_len], fun i hi => ?_⟩
  simp only [List.size_toArray, mkVs_len] at hi
  have ha : ars[i]? = some ars[i] := List.getElem?_eq_getElem hi
  have e1 : (mkVs 0 ars).toArray.getD i undef = mkV i ars[i].1 := by
   simp [mkVs_get, ha]
  have e2 : (ars.map (·.1)).toArray.getD i undef = ars[i].1 := by simp [hi]
  rw [e1, e2]
  generalize ars[i] = a at ha
  obtain ⟨v, c⟩ := a
  rcases h _ (List.mem_of_getElem? ha) with (h1 | ⟨bb, o, n, cap, h1, h2, h3, h4, h5⟩) | ⟨l, h1, hl⟩
  ·simp only at h1 ⊢
   cases v with
   | slice x n cap => cases x with
    | none => exact g0_rel h1
    | some x => simp [g0] at h1
   | _ => exact g0_rel h1
  ·simp only at h1 ⊢
   subst h1
   have := Rel.slice (R := R) i 0 n n ⟨bb, o, cap - n⟩ (by simp [R, ha, mkP]) (Nat.le_refl _)
   rw [show n + (cap - n) = cap by omega] at this
   simpa [mkV] using this
  ·simp only at h1 ⊢
   subst h1
   exact hl R
 refine (hc W.heap.size R W _ (Nat.le_refl _) hm hargs).mono ?_
 rintro e w' ⟨v, v', R', m', rfl, k1, k2, rfl, rfl⟩
 cases k1
 exact ⟨rfl, k2.below hm (Nat.le_refl _)⟩
theorem RelSelf.rect (r : Rc) : RelSelf r.v := ⟨_, rfl, fun R => rel_aggI R [r.x, r.y, r.w, r.h]⟩
theorem RelSelf.kind (k : Kd) : RelSelf k.v := ⟨_, rfl, fun R => .agg _ _ rfl fun i hi => by
 simp at hi
 rcases (show i = 0 ∨ i = 1 ∨ i = 2 ∨ i = 3 ∨ i = 4 by omega) with rfl | rfl | rfl | rfl | rfl
 ·exact .int _ _
 ·exact .int _ _
 ·exact .int _ _
 ·exact .int _ _
 ·exact .bool _⟩
def sv (l : List ByteArray) : List Value := l.map .string
def kb (y : List Int × Bool) : List Value := iv y.1 ++ [.bool y.2]
theorem g0_kb (y : List Int × Bool) : ∀ v ∈ kb y, g0 v = true := fun v hv => by
 rcases List.mem_append.1 hv with h | h
 ·exact g0_iv _ v h
 ·simp at h; subst h; rfl
def kindB (P : Program) (f : Field) : Bool := match P.underlying f.type with | some .bool => true | _ => false
def kindI (P : Program) (f : Field) : Bool := match P.underlying f.type with | some (.int .i64) => true | _ => false
def fieldsKB (P : Program) (fs : Array Field) (q : Nat) : Bool := (List.range q).all (fun j => match fs[j]? with | some f => kindI P f | none => false) && match fs[q]? with | some f => kindB P f | none => false
theorem fieldsKB_int {P : Program} {fs : Array Field} {q j : Nat} {f : Field} (h : fieldsKB P fs q = true) (hj : fs[j]? = some f) (hq : j < q) : P.underlying f.type = some (.int .i64) := by
 simp only [fieldsKB, Bool.and_eq_true] at h
 have := List.all_eq_true.1 h.1 j (List.mem_range.2 hq)
 rw [hj] at this
 simp only [kindI] at this
 split at this
 ·assumption
 ·cases this
theorem fieldsKB_bool {P : Program} {fs : Array Field} {q : Nat} {f : Field} (h : fieldsKB P fs q = true) (hj : fs[q]? = some f) : P.underlying f.type = some .bool := by
 simp only [fieldsKB, Bool.and_eq_true] at h
 have := h.2
 rw [hj] at this
 simp only [kindB] at this
 split at this
 ·assumption
 ·cases this
section
variable {H : Type} {enc : TypeId × Value → H} {P : Program} {w : World} {base : Nat} {spare : Nat → Bool} {held : Bool}
theorem arg_strs {r : Reach} {b0 : Nat} {T e : TypeId} {a : Option Addr} {n c : Nat} {d : DataW H} {p : List MemPlace} (ht : P.underlying T = some (.slice e)) (he : P.underlying e = some .string) (hce : P.cellsOf e = 1) (hok : Value.okWide P w r b0 T (.slice a n c)) (h : DataW.Trod enc P w base spare held T (.slice a n c) d p) :
  ∃ l : List ByteArray, l.length = n ∧ n ≤ maxLen ∧ Okarg w (.slice a n c, sv l) ∧ ∀ M : AM, ∀ i, M[i]? = some (mkB (.slice a n c, sv l)) → Strs M (mkV i (.slice a n c)) l := by
 obtain ⟨fuel, h⟩ := h
 rcases ok_slice ht hok with ⟨rfl, rfl, rfl⟩ | ⟨b, o, rfl, hle, hlt⟩
 ·exact ⟨[], rfl, by unfold maxLen; omega, .inl rfl, fun M i hi => ⟨i, 0, .inl ⟨rfl, rfl⟩, (List.getElem?_eq_some_iff.1 hi).1, fun k hk => by simp at hk⟩⟩
 ·rcases open_strs ht he hce h with ⟨hcs, _⟩ | ⟨x, l, cap, m, S, hcs, _, hl, hm, hmm, _, hcell⟩
  ·simp [Value.cells] at hcs
  ·simp [Value.cells] at hcs
   obtain ⟨rfl, rfl, rfl⟩ := hcs
   have hnm : n ≤ m := by rw [hmm]; split <;> omega
   refine ⟨(List.range n).map S, by simp, by omega, .inr ⟨b, o, n, c, rfl, hle, hlt, fun j x hj => ?_, fun x hx => ?_⟩, fun M i hM => ?_⟩
   ·have hjl := (List.getElem?_eq_some_iff.1 hj).1
    simp [sv] at hjl
    have := (hcell j (by omega)).1
    rw [Addr.add_lit] at this
    rw [this]
    simpa [sv, hjl] using hj
   ·simp [sv] at hx
    obtain ⟨k, _, rfl⟩ := hx
    rfl
   ·simp only [mkB] at hM
    refine ⟨i, 0, by simpa [mkV] using Sl.mk (Nat.le_refl n), (List.getElem?_eq_some_iff.1 hM).1, fun k hk => ⟨_, hM, ?_⟩⟩
    simp at hk
    simp [sv, rowOf, hk]
theorem arg_kb {r : Reach} {b0 : Nat} {T e : TypeId} {fs : Array Field} {a : Option Addr} {n c : Nat} {d : DataW H} {p : List MemPlace} (ht : P.underlying T = some (.slice e)) (he : P.underlying e = some (.struct fs)) (hone : oneCellFields P fs = true) (hC : P.cellsOf e = fs.size)
  {q : Nat} (hq : fs.size = q + 1) (hi : fieldsKB P fs q = true) (hok : Value.okWide P w r b0 T (.slice a n c)) (h : DataW.Trod enc P w base spare held T (.slice a n c) d p) :
  ∃ F : Nat → List Int × Bool, (∀ k, (F k).1.length = q) ∧ n ≤ maxLen ∧ Okarg w (.slice a n c, (List.range n).flatMap fun k => kb (F k)) ∧ (∀ M : AM, ∀ i, M[i]? = some (mkB (.slice a n c, (List.range n).flatMap fun k => kb (F k))) → Sl (mkV i (.slice a n c)) i 0 n ∧ i < M.length ∧ ∀ k, k < n → RdL M i (0 + k * fs.size) (kb (F k))) := by
 obtain ⟨fuel, h⟩ := h
 rcases ok_slice ht hok with ⟨rfl, rfl, rfl⟩ | ⟨b, o, rfl, hle, hlt⟩
 ·exact ⟨fun _ => (List.replicate q 0, false), fun _ => by simp, by unfold maxLen; omega, .inl rfl, fun M i hi => ⟨.inl ⟨rfl, rfl⟩, (List.getElem?_eq_some_iff.1 hi).1, fun k hk => by omega⟩⟩
 ·rcases open_slice_fields ht he hone hC h with ⟨hcs, _⟩ | ⟨x, l, cap, m, D, Pl, hcs, _, hl, hm, hmm, _, hrow⟩
  ·simp [Value.cells] at hcs
  ·simp [Value.cells] at hcs
   obtain ⟨rfl, rfl, rfl⟩ := hcs
   have key : ∀ k : Nat, ∃ y : List Int × Bool, y.1.length = q ∧ (k < n → ∀ j v, (kb y)[j]? = some v → w.cell? ⟨b, o + (k * fs.size + j), none⟩ = some v) := fun k => by
    by_cases hk : k < n
    ·obtain ⟨ys, nn, _, _, _, hf⟩ := hrow k (by rw [hmm]; split <;> omega)
     have key2 : ∀ j : Nat, ∃ z : Int, j < q → w.cell? ⟨b, o + (k * fs.size + j), none⟩ = some (.int .i64 z) := fun j => by
      by_cases hj : j < q
      ·obtain ⟨v, y, h1, _, h3⟩ := hf j fs[j] (Array.getElem?_eq_getElem (by omega))
       obtain ⟨z, hz, _⟩ := DataW.trod_int (fieldsKB_int hi (Array.getElem?_eq_getElem (by omega)) hj) h3
       simp at hz
       subst hz
       rw [Addr.add_lit] at h1
       exact ⟨z, fun _ => h1⟩
      ·exact ⟨0, fun h => absurd h hj⟩
     obtain ⟨g, hg⟩ := Classical.axiomOfChoice key2
     obtain ⟨v, y, h1, _, h3⟩ := hf q (fs[q]'(by omega)) (Array.getElem?_eq_getElem (by omega))
     obtain ⟨z, hz, _⟩ := DataW.trod_bool (fieldsKB_bool hi (Array.getElem?_eq_getElem (by omega))) h3
     simp at hz
     subst hz
     rw [Addr.add_lit] at h1
     refine ⟨((List.range q).map g, z), by simp, fun _ j v hj => ?_⟩
     unfold kb at hj
     rcases Nat.lt_trichotomy j q with h | rfl | h
     ·rw [List.getElem?_append_left (by simpa [iv] using h), iv_get (by simpa using h)] at hj
      injection hj with hj
      rw [hg j h, ← hj]
      simp [h]
     ·rw [List.getElem?_append_right (by simp [iv])] at hj
      simp [iv] at hj
      rw [← hj]; exact h1
     ·rw [List.getElem?_eq_none (by simp [iv]; omega)] at hj
      cases hj
    ·exact ⟨(List.replicate q 0, false), by simp, fun h => absurd h hk⟩
   obtain ⟨F, hF⟩ := Classical.axiomOfChoice key
   have hlenF : ∀ k, (kb (F k)).length = fs.size := fun k => by unfold kb; rw [List.length_append, iv_len, (hF k).1, hq]; rfl
   have get : ∀ q, ∀ k, k < q → ∀ j v, (kb (F k))[j]? = some v → ((List.range q).flatMap fun k => kb (F k))[k * fs.size + j]? = some v := by
    intro q
    induction q with
    | zero => intro k hk; omega
    | succ q ih =>
     intro k hk j v hj
     have hjl : j < fs.size := by
      have := (List.getElem?_eq_some_iff.1 hj).1
      rwa [hlenF] at this
     have hql : ((List.range q).flatMap fun k => kb (F k)).length = q * fs.size := by
      clear ih hk hj
      induction q with
      | zero => simp
      | succ q ih2 => rw [List.range_succ, List.flatMap_append, List.length_append, ih2]; simp [hlenF, Nat.add_mul]
     rw [List.range_succ, List.flatMap_append]
     rcases Nat.lt_succ_iff_lt_or_eq.1 hk with h' | h'
     ·have h2 : k * fs.size + fs.size ≤ q * fs.size := by
       have := Nat.mul_le_mul_right fs.size (show k + 1 ≤ q by omega)
       rw [Nat.add_mul] at this; omega
      rw [List.getElem?_append_left (by rw [hql]; omega)]
      exact ih k h' j v hj
     ·subst h'
      rw [List.getElem?_append_right (by rw [hql]; omega), hql, Nat.add_sub_cancel_left]
      simpa using hj
   have tot : ∀ q, ((List.range q).flatMap fun k => kb (F k)).length = q * fs.size := fun q => by
    induction q with
    | zero => simp
    | succ q ih2 => rw [List.range_succ, List.flatMap_append, List.length_append, ih2]; simp [hlenF, Nat.add_mul]
   refine ⟨F, fun k => (hF k).1, by omega, .inr ⟨b, o, n, c, rfl, hle, hlt, fun j x hj => ?_, fun x hx => ?_⟩, fun M i hM => ?_⟩
   ·have hjl := (List.getElem?_eq_some_iff.1 hj).1
    simp only at hjl hj
    rw [tot] at hjl
    have hs : 0 < fs.size := by
     rcases Nat.eq_zero_or_pos fs.size with h0 | h0
     ·rw [h0] at hjl; omega
     ·exact h0
    have hk : j / fs.size < n := (Nat.div_lt_iff_lt_mul hs).2 hjl
    have hr : j % fs.size < fs.size := Nat.mod_lt _ hs
    have e : j = j / fs.size * fs.size + j % fs.size := by rw [Nat.mul_comm]; exact (Nat.div_add_mod j fs.size).symm
    obtain ⟨v, hv⟩ : ∃ v, (kb (F (j / fs.size)))[j % fs.size]? = some v := ⟨_, List.getElem?_eq_getElem (by rw [hlenF]; exact hr)⟩
    have h1 := get n (j / fs.size) hk (j % fs.size) v hv
    rw [← e] at h1
    rw [h1] at hj
    injection hj with hj
    have h2 := (hF (j / fs.size)).2 hk (j % fs.size) v hv
    rw [← e] at h2
    rw [h2, hj]
   ·obtain ⟨k, _, hk⟩ := List.mem_flatMap.1 hx
    exact g0_kb _ x hk
   ·simp only [mkB] at hM
    refine ⟨Sl.mk (Nat.le_refl _), (List.getElem?_eq_some_iff.1 hM).1, fun k hk => ⟨_, hM, fun j v hj => ?_⟩⟩
    rw [Nat.zero_add]
    exact get n k hk j v hj
def kv (l : List Kd) : List Value := l.flatMap Kd.cells
theorem arg_kinds {r : Reach} {b0 : Nat} {T e : TypeId} {fs : Array Field} {a : Option Addr} {n c : Nat} {d : DataW H} {p : List MemPlace} (ht : P.underlying T = some (.slice e)) (he : P.underlying e = some (.struct fs)) (hone : oneCellFields P fs = true) (hC : P.cellsOf e = fs.size)
  (hq : fs.size = 4 + 1) (hi : fieldsKB P fs 4 = true) (hok : Value.okWide P w r b0 T (.slice a n c)) (h : DataW.Trod enc P w base spare held T (.slice a n c) d p) :
  ∃ l : List Kd, l.length = n ∧ n ≤ maxLen ∧ Okarg w (.slice a n c, kv l) ∧ ∀ M : AM, ∀ i, M[i]? = some (mkB (.slice a n c, kv l)) → Kds M (mkV i (.slice a n c)) l := by
 obtain ⟨F, h1, h2, h3, h4⟩ := arg_kb ht he hone hC hq hi hok h
 have key : ∀ k, ∃ x : Kd, kb (F k) = x.cells := fun k => by
  have hk := h1 k
  generalize F k = y at hk ⊢
  obtain ⟨l, b⟩ := y
  simp only at hk
  match l, hk with
  | [x, y, z, u], _ => exact ⟨⟨x, y, z, u, b⟩, rfl⟩
 obtain ⟨G, hG⟩ := Classical.axiomOfChoice key
 have e : ((List.range n).flatMap fun k => kb (F k)) = kv ((List.range n).map G) := by
  unfold kv
  rw [List.flatMap_map]
  congr 1
  funext k
  exact hG k
 rw [e] at h3 h4
 refine ⟨(List.range n).map G, by simp, h2, h3, fun M i hM => ?_⟩
 obtain ⟨k1, k2, k3⟩ := h4 M i hM
 refine ⟨i, 0, by simpa using k1, k2, fun k hk => ?_⟩
 simp at hk
 have := k3 k hk
 rw [hq, hG k] at this
 have eg : ((List.range n).map G).getD k default = G k := by simp [hk]
 rw [eg]
 exact this
end
end Go.Proofs.YtedbjmgchfgabaaDoor.Abs
namespace Go.Proofs.YtedbjmgchfgabaaDoor.Abs
set_option linter.unusedSimpArgs false
set_option linter.unusedVariables false
open Go.RowKit
open Go.Proofs.YtedbjmgchfgabaaDoor.Sim
inductive Ent | val (d : Nat) (v : Value) | cp (d k : Nat) (f : Nat → Value) | mk (d : Nat) (f : Nat → Value) (b : Option Blk) | fill (k : Nat) (b : Option Blk)
def Ent.pr (p : Nat → Nat) (i : Nat) : Ent → List (Nat × Value)
 | .val d v => [(d, v)]
 | .cp d k f => [(d, f (p k))]
 | .mk d f _ => [(d, f (p i))]
 | .fill .. => []
def depG (p : Nat → Nat) (acc : List Ent) (D : List Nat) : List (Nat × Value) := D.flatMap fun j => (acc.getD j (.fill 0 none)).pr p (acc.length - 1 - j)
def fillOf (k : Nat) : List Ent → Option (Option Blk)
 | [] => none
 | .fill j b :: acc => if j = k then some b else fillOf k acc
 | _ :: acc => fillOf k acc
section
variable (P : Program) (nt : Nat) (m : AM) (ops : Array Oper) (bs : List (Nat × Value))
def EntOk (o : Oper) (dd : List Nat) (acc : List Ent) : Ent → Prop
 | .val d v => o.dst = some d ∧ ∀ p : Nat → Nat, (∀ k, m.length ≤ p k) → ∀ N : AM, Step P nt ops o (fr (depG p acc dd ++ bs)) (m ++ N) (fun t' m' => t' d = some v ∧ m' = m ++ N)
 | .cp d k f => o.dst = some d ∧ k < acc.length ∧ acc.length - 1 - k ∈ dd ∧ ∀ p : Nat → Nat, (∀ k, m.length ≤ p k) → ∀ N : AM, Step P nt ops o (fr (depG p acc dd ++ bs)) (m ++ N) (fun t' m' => t' d = some (f (p k)) ∧ m' = m ++ N)
 | .mk d f b => o.dst = some d ∧ ∀ p : Nat → Nat, (∀ k, m.length ≤ p k) → ∀ N : AM, Step P nt ops o (fr (depG p acc dd ++ bs)) (m ++ N) (fun t' m' => t' d = some (f (m ++ N).length) ∧ m' = (m ++ N) ++ [b])
 | .fill k b => o.dst = none ∧ fillOf k acc = none ∧ k < acc.length ∧ acc.length - 1 - k ∈ dd ∧ ∃ d f b0, acc[acc.length - 1 - k]? = some (.mk d f b0) ∧
   ∀ p : Nat → Nat, (∀ k, m.length ≤ p k) → ∀ M : AM, M[p k]? = some b0 → Step P nt ops o (fr (depG p acc dd ++ bs)) M (fun _ m' => m' = M.set (p k) b)
def AWg : List Oper → List (List Nat) → List Ent → (List Ent → Prop) → Prop
 | [], _, acc, Q => Q acc
 | o :: rest, D, acc, Q => ∃ e, EntOk P nt m ops bs o (D.headD []) acc e ∧ AWg rest D.tail (e :: acc) Q
end
section
variable {P : Program} {nt : Nat} {t : Fm} {m m0 : AM} {ops : Array Oper} {l : List Oper} {bs : List (Nat × Value)} {o : Oper} {rest : List Oper} {dd : List Nat} {D : List (List Nat)} {acc : List Ent} {Q : List Ent → Prop} {d : Nat} {v : Value}
theorem AWg.val (hd : o.dst = some d) (h : ∀ p : Nat → Nat, (∀ k, m.length ≤ p k) → ∀ N : AM, Step P nt ops o (fr (depG p acc dd ++ bs)) (m ++ N) (fun t' m' => t' d = some v ∧ m' = m ++ N)) (hr : AWg P nt m ops bs rest D (.val d v :: acc) Q) : AWg P nt m ops bs (o :: rest) (dd :: D) acc Q := ⟨.val d v, ⟨hd, h⟩, hr⟩
theorem AWg.ptr {b : Option Blk} (hd : o.dst = some d) (h : ∀ p : Nat → Nat, (∀ k, m.length ≤ p k) → ∀ N : AM, Step P nt ops o (fr (depG p acc dd ++ bs)) (m ++ N) (fun t' m' => t' d = some (.pointer (some ⟨(m ++ N).length, 0, none⟩)) ∧ m' = (m ++ N) ++ [b])) (hr : AWg P nt m ops bs rest D (.mk d (fun a => .pointer (some ⟨a, 0, none⟩)) b :: acc) Q) : AWg P nt m ops bs (o :: rest) (dd :: D) acc Q := ⟨.mk d (fun a => .pointer (some ⟨a, 0, none⟩)) b, ⟨hd, h⟩, hr⟩
theorem AWg.new (f : Nat → Value) {b : Option Blk} (hd : o.dst = some d) (h : ∀ p : Nat → Nat, (∀ k, m.length ≤ p k) → ∀ N : AM, Step P nt ops o (fr (depG p acc dd ++ bs)) (m ++ N) (fun t' m' => t' d = some (f (m ++ N).length) ∧ m' = (m ++ N) ++ [b])) (hr : AWg P nt m ops bs rest D (.mk d f b :: acc) Q) : AWg P nt m ops bs (o :: rest) (dd :: D) acc Q := ⟨.mk d f b, ⟨hd, h⟩, hr⟩
theorem AWg.fill (k : Nat) {d0 : Nat} {f0 : Nat → Value} {b b0 : Option Blk} (hd : o.dst = none) (h1 : fillOf k acc = none) (h2 : k < acc.length) (h3 : acc.length - 1 - k ∈ dd) (h4 : acc[acc.length - 1 - k]? = some (.mk d0 f0 b0))
  (h : ∀ p : Nat → Nat, (∀ k, m.length ≤ p k) → ∀ M : AM, M[p k]? = some b0 → Step P nt ops o (fr (depG p acc dd ++ bs)) M (fun _ m' => m' = M.set (p k) b)) (hr : AWg P nt m ops bs rest D (.fill k b :: acc) Q) : AWg P nt m ops bs (o :: rest) (dd :: D) acc Q := ⟨.fill k b, ⟨hd, h1, h2, h3, d0, f0, b0, h4, h⟩, hr⟩
section
variable {T : Nat} {pos : String} {af : Array Edge} {ty : TypeId} {b b0 : Option Blk}
end
theorem AWg.nil (h : Q acc) : AWg P nt m ops bs [] D acc Q := h
theorem AWg.get : ∀ {rest : List Oper} {D : List (List Nat)} {acc : List Ent} {Q : List Ent → Prop}, AWg P nt m ops bs rest D acc Q → ∃ a1 : List Ent, a1.length = rest.length ∧ Q (a1.reverse ++ acc) ∧ ∀ i o, rest[i]? = some o → ∃ e, a1[i]? = some e ∧ EntOk P nt m ops bs o (D.getD i []) ((a1.take i).reverse ++ acc) e
 | [], _, acc, Q, h => ⟨[], rfl, h, fun i o ho => by simp at ho⟩
 | o :: rest, D, acc, Q, h => by
  obtain ⟨e, h1, h2⟩ := h
  obtain ⟨a1, g1, g2, g3⟩ := AWg.get h2
  refine ⟨e :: a1, by simp [g1], by rw [List.reverse_cons, List.append_assoc]; exact g2, fun i o' ho => ?_⟩
  cases i with
  | zero =>
   simp only [List.getElem?_cons_zero, Option.some.injEq] at ho
   subst ho
   refine ⟨e, rfl, ?_⟩
   rw [List.take_zero, List.reverse_nil, List.nil_append]
   cases D <;> exact h1
  | succ i =>
   simp only [List.getElem?_cons_succ] at ho ⊢
   obtain ⟨e', k1, k2⟩ := g3 i o' ho
   refine ⟨e', k1, ?_⟩
   rw [List.take_succ_cons, List.reverse_cons, List.append_assoc]
   have : D.tail.getD i [] = D.getD (i + 1) [] := by cases D <;> simp
   rw [this] at k2
   exact k2
end
def Row (M : AM) (b0 s : Nat) (u : Value) (c : List Value) (n : Nat) : Prop :=
 (u = .slice none 0 0 ∧ c = [] ∧ n = 0) ∨ ∃ (a : Nat) (kd : Kind) (sz : Nat), b0 ≤ a ∧ u = .slice (some ⟨a, 0, none⟩) n n ∧ M[a]? = some (some { cells := c, kind := kd, size := sz }) ∧ c.length = n * s ∧ (kd = .own ∨ kd = .grow ∧ sz = s)
theorem Row.len {M : AM} {b0 s : Nat} {u : Value} {c : List Value} {n : Nat} (h : Row M b0 s u c n) : c.length = n * s := by
 rcases h with ⟨_, rfl, rfl⟩ | ⟨a, kd, sz, _, _, _, h, _⟩
 ·simp
 ·exact h
theorem Row.nil {M : AM} {b0 s : Nat} : Row M b0 s (.slice none 0 0) [] 0 := .inl ⟨rfl, rfl, rfl⟩
theorem Row.low {M : AM} {b0 b1 s : Nat} {u : Value} {c : List Value} {n : Nat} (h : Row M b0 s u c n) (hb : b1 ≤ b0) : Row M b1 s u c n := by
 rcases h with h | ⟨a, kd, sz, h1, h2⟩
 ·exact .inl h
 ·exact .inr ⟨a, kd, sz, by omega, h2⟩
theorem Row.old {M : AM} {b0 s : Nat} {u : Value} {c : List Value} {n : Nat} (h : Row M b0 s u c n) (T : AM) : Row (M ++ T) b0 s u c n := by
 rcases h with h | ⟨a, kd, sz, h1, h2, h3, h4⟩
 ·exact .inl h
 ·exact .inr ⟨a, kd, sz, h1, h2, get_old _ h3, h4⟩
theorem Row.sl {M : AM} {b0 s : Nat} {u : Value} {c : List Value} {n : Nat} (h : Row M b0 s u c n) (hM : 0 < M.length) : ∃ a, Sl u a 0 n ∧ a < M.length ∧ (0 < n → RdL M a 0 c) := by
 rcases h with ⟨rfl, rfl, rfl⟩ | ⟨a, kd, sz, h1, rfl, h3, h4, _⟩
 ·exact ⟨0, .inl ⟨rfl, rfl⟩, hM, fun h => absurd h (by omega)⟩
 ·exact ⟨a, Sl.mk (Nat.le_refl _), (List.getElem?_eq_some_iff.1 h3).1, fun _ => ⟨_, h3, fun j v hj => by simpa using hj⟩⟩
def NotOf (u : Value) (j : Nat) : Prop := ∀ n c, u ≠ .slice (some ⟨j, 0, none⟩) n c
theorem NotOf.row {M : AM} {b0 s : Nat} {u : Value} {c : List Value} {n j : Nat} (h : Row M b0 s u c n) (hj : j < b0) : NotOf u j := by
 intro n' c' e
 rcases h with ⟨h, _⟩ | ⟨a, kd, sz, h1, h2, _⟩
 ·rw [e] at h; cases h
 ·rw [e] at h2
  simp only [Value.slice.injEq, Option.some.injEq, Addr.mk.injEq] at h2
  omega
theorem pre_keep {m0 M M' : AM} (h : ∃ N, M = m0 ++ N) (hl : M.length ≤ M'.length) (hk : ∀ j, j < m0.length → M'[j]? = M[j]?) : ∃ N, M' = m0 ++ N := by
 obtain ⟨N, rfl⟩ := h
 refine ⟨M'.drop m0.length, ?_⟩
 rw [List.length_append] at hl
 have e : M'.take m0.length = m0 := by
  apply List.ext_getElem?
  intro j
  by_cases hj : j < m0.length
  ·rw [List.getElem?_take, if_pos hj, hk j hj, List.getElem?_append_left hj]
  ·rw [List.getElem?_eq_none (by rw [List.length_take]; omega), List.getElem?_eq_none (by omega)]
 have h2 := List.take_append_drop m0.length M'
 rw [e] at h2
 exact h2.symm
section
variable {P : Program} {nt : Nat} {ops : Array Oper} {t : Fm} {m : AM} {K : Fm → AM → Prop} {d T : Nat} {p : String} {af : Array Edge}
theorem acells_sl {m : AM} {s n a o : Nat} {v : Value} {new : List Value} (hs : Sl v a o n) (hr : 0 < n → RdL m a o new) (hn : new.length = n * s) (h0 : 0 < s) : acells (m ++ [none]) s n v = some new ∧ aSliceLen v = some n := by
 rcases hs with ⟨rfl, rfl⟩ | ⟨c, hc, rfl⟩ | ⟨rfl, o', k, rfl⟩
 ·obtain rfl : new = [] := List.eq_nil_of_length_eq_zero (by simpa using hn)
  exact ⟨by simp [acells], rfl⟩
 ·refine ⟨?_, rfl⟩
  by_cases hz : n = 0
  ·subst hz
   obtain rfl : new = [] := List.eq_nil_of_length_eq_zero (by simpa using hn)
   simp [acells]
  ·obtain ⟨b, r1, r2⟩ := hr (by omega)
   have hr' : (m ++ [none])[a]? = some (some b) := get_old _ r1
   have hns : 0 < n * s := Nat.mul_pos (by omega) h0
   have hlast := r2 (n * s - 1) new[n * s - 1] (List.getElem?_eq_getElem (by omega))
   have hlen := (List.getElem?_eq_some_iff.1 hlast).1
   have htake : (b.cells.drop o).take (n * s) = new := by
    apply List.ext_getElem?
    intro j
    by_cases hj : j < n * s
    ·rw [List.getElem?_take, if_pos hj, List.getElem?_drop, r2 j new[j] (List.getElem?_eq_getElem (by omega)), List.getElem?_eq_getElem (by omega)]
    ·rw [List.getElem?_take, if_neg hj, List.getElem?_eq_none (by omega)]
   simp only [acells, hr']
   rw [if_neg hz, if_pos ⟨Nat.le_refl _, by omega⟩, htake]
 ·obtain rfl : new = [] := List.eq_nil_of_length_eq_zero (by simpa using hn)
  exact ⟨by simp [acells], rfl⟩
theorem Step.appRow {x y : Operand} {X Y e e' : TypeId} {by_ s a o n xl b0 : Nat} {z : Array Value} {c new : List Value} {u yv : Value} (hx : evo t x = some u) (hy : evo t y = some yv) (hr : Row m b0 s u c n) (hs : Sl yv a o xl) (hrd : 0 < xl → RdL m a o new) (hE : elemB P X = some (e, s, by_, z)) (hY : P.underlying Y = some (.slice e'))
  (hn : new.length = xl * s) (hn1 : new.all (·.oneCell') = true) (h0 : Nat.blt 0 s = true) (hb : (n + xl) * by_ ≤ 1099511627776 ∧ n + xl ≤ 1099511627776) (hlt : Nat.blt d nt = true) (hbm : b0 ≤ m.length)
  (hK : ∀ u' M', Row M' b0 s u' (c ++ new) (n + xl) → m.length ≤ M'.length → (∀ j, j < m.length → NotOf u j → M'[j]? = m[j]?) → K (put t d u') M') :
  Step P nt ops ⟨some d, .call ⟨.builtin .append, #[x, y], #[X, Y]⟩, T, p, af, none⟩ t m K := by
 have h0 : 0 < s := Nat.le_of_ble_eq_true h0
 obtain ⟨hc1, hc2⟩ := acells_sl hs hrd hn h0
 have fin : ∀ v m', aloud P ⟨some d, .call ⟨.builtin .append, #[x, y], #[X, Y]⟩, T, p, af, none⟩ (evD t) (m ++ [none]) m.length = some (v, m') → K (put t d v) m' → Step P nt ops ⟨some d, .call ⟨.builtin .append, #[x, y], #[X, Y]⟩, T, p, af, none⟩ t m K :=
  fun v m' h hk => .l rfl rfl hlt rfl (by simp [Op.operands, Call.operands, hx, hy]) (loud_of_aloud rfl h hk)
 have hnone : ¬ ((!(new.all (·.oneCell')) || s == 0) = true) := by simp [hn1]; omega
 have set1 : ∀ (M : AM) (b : Blk), M.length = m.length → (M ++ [none]).set m.length (some b) = M ++ [some b] := fun M b h => by
  rw [List.set_append_right _ _ (by omega), h]
  simp
 rcases hr with ⟨rfl, rfl, rfl⟩ | ⟨q, kd, sz, hq0, rfl, hq, hcl, hkd⟩
 ·by_cases hx0 : xl = 0
  ·subst hx0
   obtain rfl : new = [] := List.eq_nil_of_length_eq_zero (by simpa using hn)
   refine fin (.slice none 0 0) (m ++ [none]) ?_ (hK _ _ Row.nil (by simp) fun j hj _ => List.getElem?_append_left hj)
   simp only [aloud, evD_of hx, evD_of hy, aappend, hE, hY, hc1, hc2]
   rw [if_neg hnone, if_pos trivial]
  ·refine fin (.slice (some ⟨m.length, 0, none⟩) xl xl) (m ++ [some { cells := new, kind := .grow, size := s }]) ?_ (hK _ _ (.inr ⟨m.length, .grow, s, hbm, by rw [Nat.zero_add], by simp, by simpa using hn, .inr ⟨rfl, rfl⟩⟩) (by simp) fun j hj _ => List.getElem?_append_left hj)
   simp only [aloud, evD_of hx, evD_of hy, aappend, hE, hY, hc1, hc2]
   rw [if_neg hnone, if_neg hx0, if_pos (by simpa using hb), set1 m _ rfl]
 ·have hg : (m ++ [none])[q]? = some (some { cells := c, kind := kd, size := sz }) := get_old _ hq
  have hql := (List.getElem?_eq_some_iff.1 hq).1
  by_cases hx0 : xl = 0
  ·subst hx0
   obtain rfl : new = [] := List.eq_nil_of_length_eq_zero (by simpa using hn)
   refine fin (.slice (some ⟨q, 0, none⟩) n n) (m ++ [none]) ?_ (hK _ _ (.inr ⟨q, kd, sz, hq0, rfl, by rw [List.append_nil]; exact hg, by rw [List.append_nil]; exact hcl, hkd⟩) (by simp) fun j hj _ => List.getElem?_append_left hj)
   simp only [aloud, evD_of hx, evD_of hy, aappend, hE, hY, hc1, hc2]
   rw [if_neg hnone, if_pos trivial]
  ·have hcn : (c ++ new).length = (n + xl) * s := by rw [List.length_append, hcl, hn, Nat.add_mul]
   rcases hkd with rfl | ⟨rfl, rfl⟩
   ·refine fin (.slice (some ⟨m.length, 0, none⟩) (n + xl) (n + xl)) (m ++ [some { cells := c ++ new, kind := .grow, size := s }]) ?_ (hK _ _ (.inr ⟨m.length, .grow, s, hbm, rfl, by simp, hcn, .inr ⟨rfl, rfl⟩⟩) (by simp) fun j hj _ => List.getElem?_append_left hj)
    simp only [aloud, evD_of hx, evD_of hy, aappend, hE, hY, hc1, hc2]
    rw [if_neg hnone, if_neg hx0]
    simp only [hg]
    rw [if_neg (by omega), if_pos ⟨hb.1, hb.2, Nat.le_refl _⟩, if_pos (by omega), set1 m _ rfl]
    simp [List.take_of_length_le (show c.length ≤ n * s by omega)]
   ·refine fin (.slice (some ⟨m.length, 0, none⟩) (n + xl) (n + xl)) ((m.set q none) ++ [some { cells := c ++ new, kind := .grow, size := sz }]) ?_ (hK _ _ (.inr ⟨m.length, .grow, sz, hbm, rfl, by simp, hcn, .inr ⟨rfl, rfl⟩⟩) (by simp) fun j hj hne => ?_)
    ·simp only [aloud, evD_of hx, evD_of hy, aappend, hE, hY, hc1, hc2]
     rw [if_neg hnone, if_neg hx0]
     simp only [hg]
     rw [if_neg (by omega), if_pos ⟨hb.1, hb.2, Nat.le_refl _⟩, if_pos ⟨by omega, trivial⟩, List.set_append_left _ _ hql, set1 (m.set q none) _ (by simp)]
     simp [List.take_of_length_le (show c.length ≤ n * sz by omega)]
    ·rw [List.getElem?_append_left (by simpa using hj), List.getElem?_set_ne]
     rintro rfl
     exact hne n n rfl
end
theorem NotOf.new {a j n c : Nat} (h : j < a) : NotOf (.slice (some ⟨a, 0, none⟩) n c) j := by
 intro n' c' e
 simp only [Value.slice.injEq, Option.some.injEq, Addr.mk.injEq] at e
 omega
theorem NotOf.nil {j : Nat} : NotOf (.slice none 0 0) j := fun n c e => by
 simp only [Value.slice.injEq] at e
 cases e.1
section
variable {P : Program} {nt : Nat} {ops : Array Oper} {t : Fm} {m : AM} {K : Fm → AM → Prop} {d T : Nat} {p : String} {af : Array Edge}
theorem Step.appRow2 {x y : Operand} {X Y e e' : TypeId} {by_ s a o n xl b0 : Nat} {z : Array Value} {c new : List Value} {u yv : Value} (hx : evo t x = some u) (hy : evo t y = some yv) (hr : Row m b0 s u c n) (hs : Sl yv a o xl) (hrd : 0 < xl → RdL m a o new) (hE : elemB P X = some (e, s, by_, z)) (hY : P.underlying Y = some (.slice e'))
  (hn : new.length = xl * s) (hn1 : new.all (·.oneCell') = true) (h0 : Nat.blt 0 s = true) (hb : (n + xl) * by_ ≤ 1099511627776 ∧ n + xl ≤ 1099511627776) (hlt : Nat.blt d nt = true) (hbm : b0 ≤ m.length)
  (hK : ∀ u' M', Row M' b0 s u' (c ++ new) (n + xl) → m.length ≤ M'.length → (∀ j, j < m.length → NotOf u j → M'[j]? = m[j]?) → (∀ j, j < m.length → NotOf u j → NotOf u' j) → K (put t d u') M') :
  Step P nt ops ⟨some d, .call ⟨.builtin .append, #[x, y], #[X, Y]⟩, T, p, af, none⟩ t m K := by
 have h0 : 0 < s := Nat.le_of_ble_eq_true h0
 obtain ⟨hc1, hc2⟩ := acells_sl hs hrd hn h0
 have fin : ∀ v m', aloud P ⟨some d, .call ⟨.builtin .append, #[x, y], #[X, Y]⟩, T, p, af, none⟩ (evD t) (m ++ [none]) m.length = some (v, m') → K (put t d v) m' → Step P nt ops ⟨some d, .call ⟨.builtin .append, #[x, y], #[X, Y]⟩, T, p, af, none⟩ t m K :=
  fun v m' h hk => .l rfl rfl hlt rfl (by simp [Op.operands, Call.operands, hx, hy]) (loud_of_aloud rfl h hk)
 have hnone : ¬ ((!(new.all (·.oneCell')) || s == 0) = true) := by simp [hn1]; omega
 have set1 : ∀ (M : AM) (b : Blk), M.length = m.length → (M ++ [none]).set m.length (some b) = M ++ [some b] := fun M b h => by
  rw [List.set_append_right _ _ (by omega), h]
  simp
 rcases hr with ⟨rfl, rfl, rfl⟩ | ⟨q, kd, sz, hq0, rfl, hq, hcl, hkd⟩
 ·by_cases hx0 : xl = 0
  ·subst hx0
   obtain rfl : new = [] := List.eq_nil_of_length_eq_zero (by simpa using hn)
   refine fin (.slice none 0 0) (m ++ [none]) ?_ (hK _ _ Row.nil (by simp) (fun j hj _ => List.getElem?_append_left hj) fun j hj h => h)
   simp only [aloud, evD_of hx, evD_of hy, aappend, hE, hY, hc1, hc2]
   rw [if_neg hnone, if_pos trivial]
  ·refine fin (.slice (some ⟨m.length, 0, none⟩) xl xl) (m ++ [some { cells := new, kind := .grow, size := s }]) ?_ (hK _ _ (.inr ⟨m.length, .grow, s, hbm, by rw [Nat.zero_add], by simp, by simpa using hn, .inr ⟨rfl, rfl⟩⟩) (by simp) (fun j hj _ => List.getElem?_append_left hj) fun j hj h => NotOf.new hj)
   simp only [aloud, evD_of hx, evD_of hy, aappend, hE, hY, hc1, hc2]
   rw [if_neg hnone, if_neg hx0, if_pos (by simpa using hb), set1 m _ rfl]
 ·have hg : (m ++ [none])[q]? = some (some { cells := c, kind := kd, size := sz }) := get_old _ hq
  have hql := (List.getElem?_eq_some_iff.1 hq).1
  by_cases hx0 : xl = 0
  ·subst hx0
   obtain rfl : new = [] := List.eq_nil_of_length_eq_zero (by simpa using hn)
   refine fin (.slice (some ⟨q, 0, none⟩) n n) (m ++ [none]) ?_ (hK _ _ (.inr ⟨q, kd, sz, hq0, rfl, by rw [List.append_nil]; exact hg, by rw [List.append_nil]; exact hcl, hkd⟩) (by simp) (fun j hj _ => List.getElem?_append_left hj) fun j hj h => h)
   simp only [aloud, evD_of hx, evD_of hy, aappend, hE, hY, hc1, hc2]
   rw [if_neg hnone, if_pos trivial]
  ·have hcn : (c ++ new).length = (n + xl) * s := by rw [List.length_append, hcl, hn, Nat.add_mul]
   rcases hkd with rfl | ⟨rfl, rfl⟩
   ·refine fin (.slice (some ⟨m.length, 0, none⟩) (n + xl) (n + xl)) (m ++ [some { cells := c ++ new, kind := .grow, size := s }]) ?_ (hK _ _ (.inr ⟨m.length, .grow, s, hbm, rfl, by simp, hcn, .inr ⟨rfl, rfl⟩⟩) (by simp) (fun j hj _ => List.getElem?_append_left hj) fun j hj h => NotOf.new hj)
    simp only [aloud, evD_of hx, evD_of hy, aappend, hE, hY, hc1, hc2]
    rw [if_neg hnone, if_neg hx0]
    simp only [hg]
    rw [if_neg (by omega), if_pos ⟨hb.1, hb.2, Nat.le_refl _⟩, if_pos (by omega), set1 m _ rfl]
    simp [List.take_of_length_le (show c.length ≤ n * s by omega)]
   ·refine fin (.slice (some ⟨m.length, 0, none⟩) (n + xl) (n + xl)) ((m.set q none) ++ [some { cells := c ++ new, kind := .grow, size := sz }]) ?_ (hK _ _ (.inr ⟨m.length, .grow, sz, hbm, rfl, by simp, hcn, .inr ⟨rfl, rfl⟩⟩) (by simp) (fun j hj hne => ?_) fun j hj h => NotOf.new hj)
    ·simp only [aloud, evD_of hx, evD_of hy, aappend, hE, hY, hc1, hc2]
     rw [if_neg hnone, if_neg hx0]
     simp only [hg]
     rw [if_neg (by omega), if_pos ⟨hb.1, hb.2, Nat.le_refl _⟩, if_pos ⟨by omega, trivial⟩, List.set_append_left _ _ hql, set1 (m.set q none) _ (by simp)]
     simp [List.take_of_length_le (show c.length ≤ n * sz by omega)]
    ·rw [List.getElem?_append_left (by simpa using hj), List.getElem?_set_ne]
     rintro rfl
     exact hne n n rfl
end
def by8 (l : List UInt8) : List Value := l.map fun b => .int .u8 (b.toNat : Int)
theorem by8_get {l : List UInt8} {j : Nat} (h : j < l.length) : (by8 l)[j]? = some (.int .u8 ((l[j]).toNat : Int)) := by simp [by8, h]
section
variable {P : Program} {nt : Nat} {ops : Array Oper} {t : Fm} {m : AM} {K : Fm → AM → Prop} {d T : Nat} {p : String} {af : Array Edge}
theorem Step.toStr {x : Operand} {S D e a o n : Nat} {v : Value} {l : List UInt8} (hx : evo t x = some v) (hs : Sl v a o n) (hn : l.length = n) (hrd : RdL m a o (by8 l)) (hS : P.underlying S = some (.slice e)) (he : P.underlying e = some (.int .u8)) (hD : P.underlying D = some .string)
  (hlt : Nat.blt d nt = true) (hK : K (put t d (.string ⟨l.toArray⟩)) m) : Step P nt ops ⟨some d, .convert S D x, T, p, af, none⟩ t m K := by
 refine .l rfl rfl hlt (by simp [stillB, hS]) (by simp [Op.operands, hx]) ?_
 intro base R w b Q next hb hm hev hn'
 have h1 := hev x (by simp [Op.operands])
 rw [evD_of hx] at h1
 have hrun : (convert S D (b.eval x)).run P w = .ok (.string ⟨l.toArray⟩) w := by
  generalize b.eval x = x' at h1
  rcases hs with ⟨rfl, h0⟩ | ⟨c, hc, rfl⟩ | ⟨h0, o', k, rfl⟩
  ·obtain rfl : l = [] := List.eq_nil_of_length_eq_zero (by omega)
   cases h1
   rw [run_convert_bytes_string w S D e none 0 0 hS he hD]
   simp [Conv.bytesToString]
   rfl
  ·cases h1 with
   | slice _ _ _ _ q hq hle =>
   subst hn
   refine run_convert_bytes_back w S D e _ _ l hS he hD fun j hj => ?_
   obtain ⟨blk, k1, k2⟩ := hrd
   obtain ⟨v', r1, r2⟩ := (hm.of k1 hq).cell (k2 j _ (by8_get hj))
   rw [Addr.add_lit]
   cases r2
   rw [Nat.add_assoc]
   exact r1
  ·obtain rfl : l = [] := List.eq_nil_of_length_eq_zero (by omega)
   subst h0
   cases h1 with
   | sliceSpot _ _ _ q hq => exact run_convert_bytes_back w S D e _ _ [] hS he hD fun j hj => by simp at hj
 exact wp_of_does rfl (.inl (by simp [execOp, hrun])) (hn' R (.string ⟨l.toArray⟩) _ m w (.string _) (.refl hm) hK)
end
open Go.Proofs
section
variable {B : Brd}
variable {K : List Kd}
theorem best_V (hg : goodB B K = true) : bestM B K = V (leafM B K) (wholeR B) := by
 have hgb : boardB B = true := by simp only [goodB, Bool.and_eq_true] at hg; exact hg.1
 have hin := good_in hgb
 have hok : (wholeR B).ok (bw B) (bh B) := by
  simp only [R4.ok, wholeR]
  omega
 exact (bestT_ok (leaf := leafM B K) hin.2.2.2 hin.2.1).dn _ hok
end
theorem kds_at {m L : AM} {k : Nat} {l : List Kd} (h : L[k]? = some (gb (kvc l) 5)) : Kds (m ++ L) (gv (m.length + k) l.length) l := by
 have hlt : m.length + k < (m ++ L).length := by
  rw [List.length_append]
  have := (List.getElem?_eq_some_iff.1 h).1
  omega
 refine ⟨m.length + k, 0, gv_sl _ _, hlt, fun i hi => ?_⟩
 have hp : 0 < (kvc l).length := by rw [kvc_len]; omega
 rw [gb_pos hp] at h
 refine ⟨_, by rw [get_app]; exact h, fun j v hj => ?_⟩
 rw [Nat.zero_add]
 exact kvc_get l i hi j v hj
section
variable {P : Program} {nt : Nat} {ops : Array Oper} {t : Fm} {m : AM} {K : Fm → AM → Prop} {d T : Nat} {p : String} {af : Array Edge}
theorem Step.storeAt {x y : Operand} {ty : TypeId} {a o sz : Nat} {c : List Value} {kd : Kind} {v : Value} (hx : evo t x = some (.pointer (some ⟨a, o, none⟩))) (hy : evo t y = some v) (hb : m[a]? = some (some { cells := c, kind := kd, size := sz })) (hz : szB P ty = some 1) (hs : kd.solid = true) (ho : o < c.length) (hv : v.cells = #[v]) (hv1 : v.oneCell' = true)
  (hK : K t (m.set a (some { cells := c.set o v, kind := kd, size := sz }))) : Step P nt ops ⟨none, .store ty x y, T, p, af, none⟩ t m K := by
 refine .l0 rfl rfl rfl (by simp [Op.operands, hx, hy]) (loud_of_aloud0 (v := undef) (m' := m.set a (some { cells := c.set o v, kind := kd, size := sz })) rfl ?_ hK)
 have hsp : splice c o [v] = c.set o v := by
  unfold splice
  rw [List.set_eq_take_append_cons_drop]
  simp [ho]
 simp only [aloud, evD_of hx, evD_of hy, astore, hb, hz]
 rw [if_pos (by simp [hs, hv, hv1]; omega)]
 simp only [hv]
 simp [hsp]
end
def slF : Array Field := #[⟨"x", 3, 0, false, "", "trank/skin", 0⟩, ⟨"y", 3, 1, false, "", "trank/skin", 8⟩]
theorem un88 : Tryd.prog.underlying 88 = some (.struct slF) := by kernel_rfl
theorem un90 : Tryd.prog.underlying 90 = some (.map 88 4) := by kernel_rfl
def slotV (k : Int × Int) : Value := .agg #[.int .i64 k.1, .int .i64 k.2]
theorem forIn2 {α σ : Type} (x y : α) (s : σ) (f : α → σ → Sem (ForInStep σ)) : (forIn #[x, y] s f : Sem σ) = (do match ← f x s with | .done b => pure b | .yield b => match ← f y b with | .done b => pure b | .yield b => pure b) := by
 simp [List.forIn_cons, List.forIn_nil]
 exact congrArg (fun g => f x s >>= g) (funext fun u' => by
  cases u' with
  | done b => rfl
  | yield b => exact congrArg (fun g => f y b >>= g) (funext fun v => by cases v <;> rfl))
theorem still_eqI {P : Program} {X : TypeId} (hX : P.underlying X = some (.int .i64)) (n : Nat) (a b : Int) : Sim.still P (Op.equalIn (n + 1) X (.int .i64 a) (.int .i64 b)) = some (a == b) := by
 rw [Op.equalIn]
 show Sim.still P (Sem.bind (underlying X) _) = _
 rw [still_bind, still_und hX]
 rfl
theorem part_tr {c : Array Value} {x : Int} {k : Nat} (hk : c[k]? = some (.int .i64 x)) : Sim.still Tryd.prog (part 3 c k) = some (.int .i64 x) := by
 unfold part
 have ha : Sim.still Tryd.prog (isAgg 3) = some false := by kernel_rfl
 show Sim.still Tryd.prog (Sem.bind (isAgg 3) _) = _
 rw [still_bind, ha]
 simp only [hk]
 rfl
set_option maxRecDepth 100000 in
theorem still_chkI (e : Bool) (n : Nat) (x : Int) : Sim.still Tryd.prog (Instr.checkKey e (n + 1) 3 (.int .i64 x)) = some () := by
 rw [Instr.checkKey]
 show Sim.still Tryd.prog (Sem.bind (underlying 3) _) = _
 rw [still_bind, still_und un3]
 rfl
theorem still_chk (e : Bool) (n : Nat) (k : Int × Int) : Sim.still Tryd.prog (Instr.checkKey e (n + 1 + 1) 88 (slotV k)) = some () := by
 obtain ⟨a, b⟩ := k
 have p0 := part_tr (c := #[.int .i64 a, .int .i64 b]) (k := 0) rfl
 have p1 := part_tr (c := #[.int .i64 a, .int .i64 b]) (k := 1) rfl
 have h3 := fun x => still_chkI e n x
 rw [Instr.checkKey]
 show Sim.still Tryd.prog (Sem.bind (underlying 88) _) = _
 rw [still_bind, still_und un88]
 unfold slF slotV
 simp only [forIn2]
 simp [bind, still_bind, p0, p1, h3, pure, Sim.still]
theorem run_chk (e : Bool) (k : Int × Int) (w : World) : (Instr.checkKey e 10000 88 (slotV k)).run Tryd.prog w = .ok () w := still_run _ _ _ (still_chk e 9998 k) w
theorem still_eqS (n : Nat) (k k' : Int × Int) : Sim.still Tryd.prog (Op.equalIn (n + 1 + 1) 88 (slotV k) (slotV k')) = some (k == k') := by
 obtain ⟨a, b⟩ := k
 obtain ⟨a', b'⟩ := k'
 have hs : Tryd.prog.stoodInHeld 88 = false := by kernel_rfl
 have p0 := part_tr (c := #[.int .i64 a, .int .i64 b]) (k := 0) rfl
 have p1 := part_tr (c := #[.int .i64 a, .int .i64 b]) (k := 1) rfl
 have q0 := part_tr (c := #[.int .i64 a', .int .i64 b']) (k := 0) rfl
 have q1 := part_tr (c := #[.int .i64 a', .int .i64 b']) (k := 1) rfl
 have h3 := fun (x y : Int) => still_eqI (P := Tryd.prog) un3 n x y
 rw [Op.equalIn]
 show Sim.still Tryd.prog (Sem.bind (underlying 88) _) = _
 rw [still_bind, still_und un88]
 show Sim.still Tryd.prog (Sem.bind program _) = _
 have hp : Sim.still Tryd.prog program = some Tryd.prog := rfl
 rw [still_bind, hp]
 simp only [hs]
 unfold slF
 simp only [forIn2]
 have e : ((a, b) == (a', b')) = (a == a' && b == b') := rfl
 rw [e]
 cases h1 : (a == a') <;> cases h2 : (b == b') <;> simp [bind, still_bind, p0, p1, q0, q1, h3, h1, h2, pure, Sim.still]
theorem run_eqS (k k' : Int × Int) (w : World) : (Op.equal 88 (slotV k) (slotV k')).run Tryd.prog w = .ok (k == k') w := still_run _ _ _ (still_eqS 9998 k k') w
abbrev Ents := List ((Int × Int) × Bool)
def entsV (E : Ents) : List (Value × Value) := E.map fun e => (slotV e.1, .bool e.2)
def mapB (E : Ents) : Blk := { cells := [], kind := .map, ents := entsV E }
theorem entsV_get (E : Ents) (j : Nat) : (entsV E)[j]? = (E[j]?).map fun e => (slotV e.1, .bool e.2) := by simp [entsV]
theorem slot_g1 (k : Int × Int) : g1 (slotV k) = true := by simp [slotV, g1, g0]
def idxE (E : Ents) (k : Int × Int) : Option Nat := E.findIdx? fun e => k == e.1
theorem run_ask (w : World) (k : Int × Int) : ∀ (E : Ents) (es : List MapEntry) (i : Nat), es.length = E.length → (∀ (j : Nat) (e : (Int × Int) × Bool), E[j]? = some e → ∃ x : MapEntry, es[j]? = some x ∧ x.key = slotV e.1) →
  (∃ (j : Nat) (x : MapEntry), idxE E k = some j ∧ es[j]? = some x ∧ (Instr.findAsking 88 (slotV k) es i).run Tryd.prog w = .ok (some (i + j, x.val)) w) ∨ (idxE E k = none ∧ (Instr.findAsking 88 (slotV k) es i).run Tryd.prog w = .ok none w)
 | [], [], i, _, _ => .inr ⟨rfl, rfl⟩
 | [], _ :: _, _, h, _ => by simp at h
 | _ :: _, [], _, h, _ => by simp at h
 | e :: E, x :: es, i, h, hj => by
  obtain ⟨x', h1, h2⟩ := hj 0 e rfl
  simp at h1; subst h1
  have hrun := run_eqS k e.1 w
  unfold Instr.findAsking idxE
  rw [List.findIdx?_cons]
  simp only [Sem.run_bind, h2, hrun, Result.andThen]
  cases hk : (k == e.1) with
  | true => exact .inl ⟨0, x, rfl, rfl, rfl⟩
  | false =>
   simp only [Bool.false_eq_true, if_false]
   rcases run_ask w k E es (i + 1) (by simpa using h) (fun j e hE => hj (j + 1) e hE) with ⟨j, y, q1, q2, q3⟩ | ⟨q1, q2⟩
   ·refine .inl ⟨j + 1, y, ?_, q2, ?_⟩
    ·unfold idxE at q1; rw [q1]; rfl
    ·rw [q3, show i + 1 + j = i + (j + 1) by omega]
   ·refine .inr ⟨?_, q2⟩
    unfold idxE at q1; rw [q1]; rfl
theorem run_findS (w : World) (k : Int × Int) (E : Ents) (es : List MapEntry) (hl : es.length = E.length) (hj : ∀ (j : Nat) (e : (Int × Int) × Bool), E[j]? = some e → ∃ x : MapEntry, es[j]? = some x ∧ x.key = slotV e.1) :
  (∃ (j : Nat) (x : MapEntry), idxE E k = some j ∧ es[j]? = some x ∧ (Instr.findKey 88 (slotV k) es).run Tryd.prog w = .ok (some (j, x.val)) w) ∨ (idxE E k = none ∧ (Instr.findKey 88 (slotV k) es).run Tryd.prog w = .ok none w) := by
 have ha := run_ask w k E es 0 hl hj
 cases es with
 | nil =>
  have : E = [] := List.eq_nil_of_length_eq_zero (by simpa using hl.symm)
  subst this
  refine .inr ⟨rfl, ?_⟩
  simp [Instr.findKey, run_underlying un88, Instr.findNow, Result.andThen]
 | cons x es =>
  have hn : Instr.findNow (.struct slF) (slotV k) (x :: es) 0 = none := by
   unfold Instr.findNow
   rfl
  have e : (Instr.findKey 88 (slotV k) (x :: es)).run Tryd.prog w = (Instr.findAsking 88 (slotV k) (x :: es) 0).run Tryd.prog w := by
   simp only [Instr.findKey, Sem.run_bind, run_underlying un88, Result.andThen, hn]
  rw [e]
  simpa only [Nat.zero_add] using ha
theorem same_slot (k : Int × Int) : Instr.sameBits 10000 (slotV k) (slotV k) = true := by
 unfold slotV
 simp [Instr.sameBits]
theorem run_stays (k : Int × Int) (w : World) : (Instr.keyThatStays (slotV k) (slotV k)).run Tryd.prog w = .ok (slotV k) w := by
 simp [Instr.keyThatStays, same_slot]
def setE (E : Ents) (k : Int × Int) (b : Bool) : Ents := match idxE E k with
 | some j => E.set j (k, b)
 | none => E ++ [(k, b)]
def valE (E : Ents) (k : Int × Int) : Bool := match idxE E k with
 | some j => ((E[j]?).map (·.2)).getD false
 | none => false
theorem idxE_some {E : Ents} {k : Int × Int} {j : Nat} (h : idxE E k = some j) : ∃ b, E[j]? = some (k, b) := by
 unfold idxE at h
 obtain ⟨hj, h1, _⟩ := List.findIdx?_eq_some_iff_getElem.1 h
 refine ⟨E[j].2, ?_⟩
 rw [List.getElem?_eq_getElem hj]
 have : k = E[j].1 := by simpa using h1
 rw [this]
theorem mem_set_fst {E : Ents} {k : Int × Int} {j : Nat} {b b' : Bool} (h : E[j]? = some (k, b)) : (E.set j (k, b')).map Prod.fst = E.map Prod.fst := by
 rw [List.map_set]
 apply List.ext_getElem?
 intro i
 by_cases e : j = i
 ·subst e
  have hl := (List.getElem?_eq_some_iff.1 h).1
  rw [List.getElem?_set_self (by simpa using hl), List.getElem?_map, h]
  rfl
 ·rw [List.getElem?_set_ne e]
section
variable {base : Nat} {R : Pl} {m : AM} {w : World}
theorem post_map (h : MRep base R m w) {i : Nat} {E : Ents} {p : Sim.Place} (hi : m[i]? = some (some (mapB E))) (hp : R i = some p) : ∃ es : Array MapEntry, w.heap[p.block]? = some (.map es es.size) ∧ RelE R (entsV E) es.toList ∧
  ∀ (E' : Ents) (fs : Array MapEntry), RelE R (entsV E') fs.toList → Post base m (m.set i (some (mapB E'))) R R w { w with heap := w.heap.setIfInBounds p.block (.map fs fs.size) } := by
 have hbr := h.of hi hp
 unfold BRep at hbr
 obtain ⟨hlt, hc, hex, hbs, es, hob, hre⟩ := hbr
 refine ⟨es, hob, hre, fun E' fs hfs => ?_⟩
 have hs := MapKept.heap_set (o' := .map fs fs.size) hob
 have hmine : (mapB E).kind.mine = true := rfl
 refine ⟨.refl R, h.turn hi hmine hp _ rfl ?_ ?_ ?_, rfl, rfl, rfl, by simp, fun k' hk' ho => ?_, fun k' ho => ?_⟩
 ·refine ⟨by simpa using hlt, ?_⟩
  exact ⟨hc, hex, hbs, fs, hs.1, hfs⟩
 ·intro k' hne; exact hs.2 k' hne
 ·simp
 ·exact hs.2 k' fun e => ho ⟨i, _, p, hi, hmine, hp, e.symm⟩
 ·refine .inr ?_
  obtain ⟨j, c, q, q1, q2, q3, q4⟩ := ho
  by_cases e : j = i
  ·subst e; exact ⟨j, _, q, hi, hmine, q3, q4⟩
  ·rw [List.getElem?_set_ne (fun x => e x.symm)] at q1
   exact ⟨j, c, q, q1, q2, q3, q4⟩
theorem RelE.len {E : Ents} {es : List MapEntry} (h : RelE R (entsV E) es) : es.length = E.length := by
 rw [← h.1]; simp [entsV]
theorem RelE.at_ {E : Ents} {es : List MapEntry} (h : RelE R (entsV E) es) : ∀ (j : Nat) (e : (Int × Int) × Bool), E[j]? = some e → ∃ x : MapEntry, es[j]? = some x ∧ x.key = slotV e.1 ∧ x.born = j ∧ x.val = .bool e.2 := fun j e hj => by
 obtain ⟨x, h1, h2, h3, h4⟩ := h.2 j (slotV e.1) (.bool e.2) (by rw [entsV_get, hj]; rfl)
 refine ⟨x, h1, h2, h3, ?_⟩
 cases hx : x.val <;> rw [hx] at h4 <;> cases h4
 rfl
theorem RelE.mk {E : Ents} {es : List MapEntry} (hl : es.length = E.length) (h : ∀ (j : Nat) (e : (Int × Int) × Bool), E[j]? = some e → ∃ x : MapEntry, es[j]? = some x ∧ x.key = slotV e.1 ∧ x.born = j ∧ x.val = .bool e.2) : RelE R (entsV E) es := by
 refine ⟨by simp [entsV, hl], fun j k v hj => ?_⟩
 rw [entsV_get] at hj
 cases he : E[j]? with
 | none => rw [he] at hj; cases hj
 | some e =>
  rw [he] at hj
  simp only [Option.map_some, Option.some.injEq, Prod.mk.injEq] at hj
  obtain ⟨rfl, rfl⟩ := hj
  obtain ⟨x, h1, h2, h3, h4⟩ := h j e he
  exact ⟨x, h1, h2, h3, by rw [h4]; exact .bool _⟩
theorem RelE.push {E : Ents} {es : Array MapEntry} (h : RelE R (entsV E) es.toList) (k : Int × Int) (b : Bool) : RelE R (entsV (E ++ [(k, b)])) (es.push { key := slotV k, val := .bool b, born := es.size }).toList := by
 have hl := RelE.len h
 refine RelE.mk (by simpa using hl) fun j e hj => ?_
 rw [Array.toList_push]
 by_cases h1 : j < E.length
 ·rw [List.getElem?_append_left h1] at hj
  rw [List.getElem?_append_left (by omega)]
  exact RelE.at_ h j e hj
 ·have hj1 := (List.getElem?_eq_some_iff.1 hj).1
  obtain rfl : j = E.length := by simp at hj1; omega
  rw [List.getElem?_append_right (by omega)] at hj
  simp at hj
  subst hj
  rw [List.getElem?_append_right (by omega), hl]
  refine ⟨_, by simp; rfl, rfl, ?_, rfl⟩
  simpa using hl
theorem RelE.setv {E : Ents} {es : Array MapEntry} {k : Int × Int} {b b' : Bool} {j : Nat} (h : RelE R (entsV E) es.toList) (hj : E[j]? = some (k, b')) : RelE R (entsV (E.set j (k, b))) (es.modify j fun e => { e with key := slotV k, val := .bool b }).toList := by
 have hl := RelE.len h
 have hjl := (List.getElem?_eq_some_iff.1 hj).1
 refine RelE.mk (by simpa using hl) fun i e hi => ?_
 by_cases e2 : j = i
 ·subst e2
  rw [List.getElem?_set_self hjl] at hi
  injection hi with hi; subst hi
  obtain ⟨x, h1, h2, h3, h4⟩ := RelE.at_ h j _ hj
  refine ⟨{ x with key := slotV k, val := .bool b }, ?_, rfl, h3, rfl⟩
  have : es[j]? = some x := by simpa using h1
  simp [Array.getElem?_modify, this]
 ·rw [List.getElem?_set_ne e2] at hi
  obtain ⟨x, h1, h2, h3, h4⟩ := RelE.at_ h i e hi
  refine ⟨x, ?_, h2, h3, h4⟩
  have : es[i]? = some x := by simpa using h1
  simp [Array.getElem?_modify, e2, this]
end
section
variable {nt : Nat} {ops : Array Oper} {t : Fm} {m : AM} {K : Fm → AM → Prop} {d T : Nat} {p : String} {af : Array Edge}
theorem rel_slot {R : Pl} {k : Int × Int} {v : Value} (h : Rel R (slotV k) v) : v = slotV k := g1_eq (slot_g1 k) h
set_option maxRecDepth 100000 in
theorem Step.mapSet {x y z : Operand} {q : Nat} {k : Int × Int} {b : Bool} {E : Ents} (hx : evo t x = some (.map (some q))) (hy : evo t y = some (slotV k)) (hz : evo t z = some (.bool b)) (hq : m[q]? = some (some (mapB E))) (hK : K t (m.set q (some (mapB (setE E k b))))) :
  Step Tryd.prog nt ops ⟨none, .mapUpdate 90 x y z, T, p, af, none⟩ t m K := by
 refine .l0 rfl rfl rfl (by simp [Op.operands, hx, hy, hz]) ?_
 intro base R w a Q next hb hm hev hn
 have h1 := hev x (by simp [Op.operands])
 have h2 := hev y (by simp [Op.operands])
 have h3 := hev z (by simp [Op.operands])
 rw [evD_of hx] at h1
 rw [evD_of hy] at h2
 rw [evD_of hz] at h3
 have e2 := rel_slot h2
 have e3 : a.eval z = .bool b := by generalize a.eval z = u at h3; cases h3; rfl
 obtain ⟨pq, e1, hpq⟩ : ∃ pq, a.eval x = .map (some pq.block) ∧ R q = some pq := by
  generalize a.eval x = u at h1
  cases h1 with
  | mapAt _ p h => exact ⟨p, rfl, h⟩
 obtain ⟨es, hob, hre, post⟩ := post_map hm hq hpq
 have hl := RelE.len hre
 have hfind := run_findS w k E es.toList hl fun j e hj => by obtain ⟨x, q1, q2, _⟩ := RelE.at_ hre j e hj; exact ⟨x, q1, q2⟩
 have hck := run_chk false k w
 rcases hfind with ⟨j, x', i1, i2, i3⟩ | ⟨i1, i3⟩
 ·obtain ⟨b', hj⟩ := idxE_some i1
  have hset : setE E k b = E.set j (k, b) := by unfold setE; rw [i1]
  rw [hset] at hK
  obtain ⟨x2, w1, w2, _, _⟩ := RelE.at_ hre j _ hj
  rw [i2] at w1; injection w1 with w1; subst w1
  have hx2 : es[j]? = some x' := by simpa using i2
  have hp := post (E.set j (k, b)) _ (RelE.setv (b := b) hre hj)
  refine wp_of_does rfl (v' := undef) (.inr ⟨?_, rfl⟩) (hn R undef undef _ _ (.undef R) hp hK)
  simp [execOp, e1, e2, e3, Instr.mapUpdate, run_underlying un90, MapKept.run_getObj_map hob, hck, i3, hx2, w2, run_stays, MapKept.run_setObj_map _ hob, Result.andThen]
 ·have hset : setE E k b = E ++ [(k, b)] := by unfold setE; rw [i1]
  rw [hset] at hK
  have hp := post (E ++ [(k, b)]) _ (RelE.push hre k b)
  refine wp_of_does rfl (v' := undef) (.inr ⟨?_, rfl⟩) (hn R undef undef _ _ (.undef R) hp hK)
  simp [execOp, e1, e2, e3, Instr.mapUpdate, run_underlying un90, MapKept.run_getObj_map hob, hck, i3, MapKept.run_setObj_map _ hob, Result.andThen]
set_option maxRecDepth 100000 in
theorem Step.mapLook {x y : Operand} {q : Nat} {k : Int × Int} {E : Ents} (hx : evo t x = some (.map (some q))) (hy : evo t y = some (slotV k)) (hq : m[q]? = some (some (mapB E))) (hlt : Nat.blt d nt = true) (hK : K (put t d (.bool (valE E k))) m) :
  Step Tryd.prog nt ops ⟨some d, .lookup 90 x y false, T, p, af, none⟩ t m K := by
 refine .l rfl rfl hlt rfl (by simp [Op.operands, hx, hy]) ?_
 intro base R w a Q next hb hm hev hn
 have h1 := hev x (by simp [Op.operands])
 have h2 := hev y (by simp [Op.operands])
 rw [evD_of hx] at h1
 rw [evD_of hy] at h2
 have e2 := rel_slot h2
 obtain ⟨pq, e1, hpq⟩ : ∃ pq, a.eval x = .map (some pq.block) ∧ R q = some pq := by
  generalize a.eval x = u at h1
  cases h1 with
  | mapAt _ p h => exact ⟨p, rfl, h⟩
 obtain ⟨es, hob, hre, post⟩ := post_map hm hq hpq
 have hl := RelE.len hre
 have hfind := run_findS w k E es.toList hl fun j e hj => by obtain ⟨x, q1, q2, _⟩ := RelE.at_ hre j e hj; exact ⟨x, q1, q2⟩
 have hck := run_chk es.isEmpty k w
 have hrb : ∀ b : Bool, Rel R (.bool b) (.bool b) := fun b => g1_rel (by simp [g1, g0])
 rcases hfind with ⟨j, x', i1, i2, i3⟩ | ⟨i1, i3⟩
 ·obtain ⟨b', hj⟩ := idxE_some i1
  have e5 : valE E k = b' := by unfold valE; rw [i1]; simp [hj]
  rw [e5] at hK
  obtain ⟨x2, w1, w2, w3, w4⟩ := RelE.at_ hre j _ hj
  rw [i2] at w1; injection w1 with w1; subst w1
  have hx2 : es[j]? = some x' := by simpa using i2
  refine wp_of_does rfl (v' := .bool b') (.inl ?_) (hn R _ _ _ _ (hrb _) (.refl hm) hK)
  simp [execOp, e1, e2, Instr.lookup, run_underlying un90, MapKept.run_getObj_map hob, hck, i3, hx2, w2, w3, w4, Result.andThen]
 ·have e5 : valE E k = false := by unfold valE; rw [i1]
  rw [e5] at hK
  have hz : (zeroValue 4).run Tryd.prog w = .ok (.bool false) w := by
   have : zeroG Tryd.prog 4 = some (.bool false) := by kernel_rfl
   exact (zeroG_run (R := R) this).2 w
  refine wp_of_does rfl (v' := .bool false) (.inl ?_) (hn R _ _ _ _ (hrb _) (.refl hm) hK)
  simp [execOp, e1, e2, Instr.lookup, run_underlying un90, MapKept.run_getObj_map hob, hck, i3, hz, Result.andThen]
theorem Step.newMap {M L L' : AM} (k : Nat) (hk : L.length = k) (hlt : Nat.blt d nt = true) (hL : L ++ [some (mapB [])] = L') (hK : K (put t d (.map (some (M.length + k)))) (M ++ L')) : Step Tryd.prog nt ops ⟨some d, .makeMap 90 none, T, p, af, none⟩ t (M ++ L) K := by
 subst hL
 refine .l rfl rfl hlt rfl (by simp [Op.operands]) (loudN hk rfl (v := .map (some (M.length + k))) ?_ hK)
 simp only [aloud]
 rw [set_new_at M L hk]
 rfl
theorem Step.mapSetP {x y z : Operand} {q : Nat} {u v : Int} {b : Bool} {E : Ents} (hx : evo t x = some (.map (some q))) (hy : evo t y = some (.agg #[.int .i64 u, .int .i64 v])) (hz : evo t z = some (.bool b)) (hq : m[q]? = some (some (mapB E))) (hK : K t (m.set q (some (mapB (setE E (u, v) b))))) :
  Step Tryd.prog nt ops ⟨none, .mapUpdate 90 x y z, T, p, af, none⟩ t m K := .mapSet hx (k := (u, v)) hy hz hq hK
end
end Go.Proofs.YtedbjmgchfgabaaDoor.Abs
namespace Go.Proofs.YtedbjmgchfgabaaDoor.Abs
set_option linter.unusedSimpArgs false
set_option linter.unusedVariables false
section
variable {w h : Nat}
theorem V_add {f g s : R4 → Int} (h0 : ∀ r, 0 ≤ f r) (h1 : ∀ r, 0 ≤ g r) (hs : ∀ r : R4, r.ok w h → s r ≤ f r + g r) : ∀ r : R4, r.ok w h → V s r ≤ V f r + V g r := by
 refine R4.ind fun r hr ih => ?_
 have n0 := V_nonneg h0 hr
 have n1 := V_nonneg h1 hr
 have c : ∀ d, cutM (V s) r d ≤ V f r + V g r := fun d => by
  have c0 := cut_le_V (leaf := f) hr d
  have c1 := cut_le_V (leaf := g) hr d
  refine mxc_le (by omega) _ fun i i1 i2 => ?_
  have hl := len_pos d hr
  have l1 := ih _ (lo_ok (d := d) hr i1 (by omega)) (lo_size hr i1 (by omega))
  have l2 := ih _ (hi_ok (d := d) hr i1 (by omega)) (hi_size hr i1 (by omega))
  have m0 := le_mxc (f := fun i => V f (r.lo d i) + V f (r.hi d i)) _ i i1 i2
  have m1 := le_mxc (f := fun i => V g (r.lo d i) + V g (r.hi d i)) _ i i1 i2
  change _ ≤ cutM (V f) r d at m0
  change _ ≤ cutM (V g) r d at m1
  omega
 rw [V_eq hr]
 have := c true
 have := c false
 have := hs r hr
 have := leaf_le_V (leaf := f) hr
 have := leaf_le_V (leaf := g) hr
 omega
theorem sum_nonneg {α : Type} {f : α → Int} : ∀ (l : List α), (∀ a ∈ l, 0 ≤ f a) → 0 ≤ (l.map f).sum
 | [], _ => by simp
 | a :: l, hf => by
  have := sum_nonneg l fun b hb => hf b (.tail _ hb)
  have := hf a (.head _)
  simp only [List.map_cons, List.sum_cons]; omega
theorem le_sum {α : Type} {f : α → Int} : ∀ {l : List α} {a : α}, (∀ a ∈ l, 0 ≤ f a) → a ∈ l → f a ≤ (l.map f).sum
 | b :: l, a, hf, ha => by
  simp only [List.map_cons, List.sum_cons]
  have h0 := sum_nonneg l fun b hb => hf b (.tail _ hb)
  have h1 := hf b (.head _)
  rcases List.mem_cons.1 ha with rfl | ha
  ·omega
  ·have := le_sum (fun b hb => hf b (.tail _ hb)) ha
   omega
theorem V_sum {α : Type} {f : α → R4 → Int} : ∀ (l : List α) (s : R4 → Int), (∀ a ∈ l, ∀ r, 0 ≤ f a r) → (∀ r : R4, r.ok w h → s r ≤ (l.map fun a => f a r).sum) → ∀ r : R4, r.ok w h → V s r ≤ (l.map fun a => V (f a) r).sum
 | [], s, _, hs, r, hr => by
  have := V_le (leaf := s) (c := 0) (fun r hr => by have := hs r hr; simp at this; simpa using this) (by omega) r hr
  simpa using this
 | a :: l, s, h0, hs, r, hr => by
  simp only [List.map_cons, List.sum_cons]
  have ih := V_sum l (fun r => (l.map fun a => f a r).sum) (fun b hb => h0 b (.tail _ hb)) (fun _ _ => Int.le_refl _) r hr
  have := V_add (w := w) (h := h) (f := f a) (g := fun r => (l.map fun a => f a r).sum) (s := s) (h0 a (.head _)) (fun r => sum_nonneg l fun b hb => h0 b (.tail _ hb) r) (fun r hr => by simpa using hs r hr) r hr
  omega
end
abbrev Cell := Int × Int
def adj : Cell → List Cell
 | (x, y) => [(x, y - 1), (x - 1, y), (x + 1, y), (x, y + 1)]
theorem adj_comm {c d : Cell} (h : d ∈ adj c) : c ∈ adj d := by
 obtain ⟨x, y⟩ := c
 obtain ⟨u, v⟩ := d
 simp only [adj, List.mem_cons, List.not_mem_nil, or_false, Prod.mk.injEq] at h ⊢
 omega
inductive Reach (U : Cell → Bool) (c : Cell) : Cell → Prop
 | refl : Reach U c c
 | step {d e : Cell} : Reach U c d → e ∈ adj d → U e = true → Reach U c e
section
variable {U : Cell → Bool}
theorem Reach.trans {a b c : Cell} (h : Reach U a b) (g : Reach U b c) : Reach U a c := by
 induction g with
 | refl => exact h
 | step _ h2 h3 ih => exact ih.step h2 h3
theorem Reach.ok {a b : Cell} (h : Reach U a b) (ha : U a = true) : U b = true := by
 cases h with
 | refl => exact ha
 | step _ _ h3 => exact h3
theorem Reach.symm {a b : Cell} (h : Reach U a b) (ha : U a = true) : Reach U b a := by
 induction h with
 | refl => exact .refl
 | step h1 h2 h3 ih => exact (Reach.step .refl (adj_comm h2) (h1.ok ha)).trans ih
theorem reach_rect {x y : Int} {a b : Nat} (h : ∀ i j : Nat, i < a → j < b → U (x + i, y + j) = true) : ∀ i j : Nat, i < a → j < b → Reach U (x, y) (x + i, y + j) := by
 have row : ∀ i : Nat, i < a → 0 < b → Reach U (x, y) (x + i, y) := fun i => by
  induction i with
  | zero => intro _ _; simpa using Reach.refl
  | succ i ih =>
   intro hi hb
   refine (ih (by omega) hb).step (e := (x + ((i + 1 : Nat) : Int), y)) ?_ (by have := h (i + 1) 0 hi hb; simpa using this)
   rw [show x + ((i + 1 : Nat) : Int) = x + i + 1 by omega]
   simp [adj]
 intro i j
 induction j with
 | zero => intro hi hj; simpa using row i hi hj
 | succ j ih =>
  intro hi hj
  refine (ih hi (by omega)).step (e := (x + (i : Int), y + ((j + 1 : Nat) : Int))) ?_ (h i (j + 1) hi hj)
  rw [show y + ((j + 1 : Nat) : Int) = y + j + 1 by omega]
  simp [adj]
end
open Classical in
noncomputable def ldr (U : Cell → Bool) : List Cell → List Cell → List Cell
 | acc, [] => acc
 | acc, c :: l => if U c = true ∧ ¬ ∃ a ∈ acc, Reach U a c then ldr U (acc ++ [c]) l else ldr U acc l
theorem ldr_app (U : Cell → Bool) : ∀ (l acc k : List Cell), ldr U acc (l ++ k) = ldr U (ldr U acc l) k
 | [], _, _ => rfl
 | c :: l, acc, k => by
  simp only [List.cons_append, ldr]
  split
  ·exact ldr_app U l _ k
  ·exact ldr_app U l _ k
theorem ldr_pre (U : Cell → Bool) : ∀ (l acc : List Cell), ∃ k, ldr U acc l = acc ++ k ∧ ∀ c ∈ k, c ∈ l ∧ U c = true
 | [], acc => ⟨[], by simp [ldr], by simp⟩
 | c :: l, acc => by
  simp only [ldr]
  split
  ·rename_i hc
   obtain ⟨k, h1, h2⟩ := ldr_pre U l (acc ++ [c])
   refine ⟨c :: k, by rw [h1]; simp, fun d hd => ?_⟩
   rcases List.mem_cons.1 hd with rfl | hd
   ·exact ⟨.head _, hc.1⟩
   ·exact ⟨.tail _ (h2 d hd).1, (h2 d hd).2⟩
  ·obtain ⟨k, h1, h2⟩ := ldr_pre U l acc
   exact ⟨k, h1, fun d hd => ⟨.tail _ (h2 d hd).1, (h2 d hd).2⟩⟩
theorem ldr_cover (U : Cell → Bool) : ∀ (l acc : List Cell) (c : Cell), c ∈ l → U c = true → ∃ a ∈ ldr U acc l, Reach U a c
 | b :: l, acc, c, hc, hu => by
  simp only [ldr]
  rcases List.mem_cons.1 hc with rfl | hc
  ·split
   ·obtain ⟨k, h1, _⟩ := ldr_pre U l (acc ++ [c])
    exact ⟨c, by rw [h1]; simp, .refl⟩
   ·rename_i hn
    have : ∃ a ∈ acc, Reach U a c := Classical.byContradiction fun e => hn ⟨hu, e⟩
    obtain ⟨a, ha, hr⟩ := this
    obtain ⟨k, h1, _⟩ := ldr_pre U l acc
    exact ⟨a, by rw [h1]; exact List.mem_append_left _ ha, hr⟩
  ·split
   ·exact ldr_cover U l _ c hc hu
   ·exact ldr_cover U l _ c hc hu
theorem ldr_one {U : Cell → Bool} {acc : List Cell} {c : Cell} (hu : U c = true) (hn : ¬ ∃ a ∈ acc, Reach U a c) : ldr U acc [c] = acc ++ [c] := by
 simp only [ldr]; exact if_pos ⟨hu, hn⟩
theorem ldr_not {U : Cell → Bool} {acc : List Cell} {c : Cell} (h : U c = false ∨ ∃ a ∈ acc, Reach U a c) : ldr U acc [c] = acc := by
 simp only [ldr]
 refine if_neg fun e => ?_
 rcases h with h | h
 ·rw [h] at e; cases e.1
 ·exact e.2 h
theorem len_le_sub {α : Type} [DecidableEq α] : ∀ {l l' : List α}, l.Nodup → (∀ x ∈ l, x ∈ l') → l.length ≤ l'.length
 | [], _, _, _ => Nat.zero_le _
 | x :: l, l', hn, hs => by
  have hx : x ∈ l' := hs x (.head _)
  have h1 := len_le_sub (l := l) (l' := l'.erase x) (List.nodup_cons.1 hn).2 fun y hy => by
   have hne : y ≠ x := fun e => (List.nodup_cons.1 hn).1 (by rw [← e]; exact hy)
   exact (List.mem_erase_of_ne hne).2 (hs y (.tail _ hy))
  rw [List.length_erase_of_mem hx] at h1
  have := List.length_pos_of_mem hx
  simp only [List.length_cons]; omega
theorem len_same {α : Type} [DecidableEq α] {l l' : List α} (h1 : l.Nodup) (h2 : l'.Nodup) (h : ∀ x, x ∈ l ↔ x ∈ l') : l.length = l'.length :=
 Nat.le_antisymm (len_le_sub h1 fun x hx => (h x).1 hx) (len_le_sub h2 fun x hx => (h x).2 hx)
def cellsL (w h : Nat) : List Cell := (List.range h).flatMap fun y => (List.range w).map fun x => (((x : Nat) : Int), ((y : Nat) : Int))
theorem mem_cellsL {w h : Nat} {c : Cell} : c ∈ cellsL w h ↔ ∃ x y : Nat, x < w ∧ y < h ∧ c = ((x : Int), (y : Int)) := by
 simp only [cellsL, List.mem_flatMap, List.mem_map, List.mem_range]
 constructor
 ·rintro ⟨y, hy, x, hx, rfl⟩; exact ⟨x, y, hx, hy, rfl⟩
 ·rintro ⟨x, y, hx, hy, rfl⟩; exact ⟨y, hy, x, hx, rfl⟩
open Classical in
noncomputable def psz (U : Cell → Bool) (w h : Nat) (c : Cell) : Nat := ((cellsL w h).filter fun d => decide (Reach U c d)).length
theorem nodup_flat {α β : Type} {f : α → List β} : ∀ {l : List α}, l.Nodup → (∀ a ∈ l, (f a).Nodup) → (∀ a ∈ l, ∀ b ∈ l, a ≠ b → ∀ x, x ∈ f a → x ∈ f b → False) → (l.flatMap f).Nodup
 | [], _, _, _ => by simp
 | a :: l, hn, h1, h2 => by
  rw [List.flatMap_cons, List.nodup_append]
  obtain ⟨ha, hl⟩ := List.nodup_cons.1 hn
  refine ⟨h1 a (.head _), nodup_flat hl (fun b hb => h1 b (.tail _ hb)) (fun b hb c hc => h2 b (.tail _ hb) c (.tail _ hc)), fun x hx y hy e => ?_⟩
  subst e
  obtain ⟨b, hb, hxb⟩ := List.mem_flatMap.1 hy
  exact h2 a (.head _) b (.tail _ hb) (fun e => ha (by rw [e]; exact hb)) x hx hxb
theorem cellsL_nodup (w h : Nat) : (cellsL w h).Nodup := by
 refine nodup_flat List.nodup_range (fun y _ => ?_) (fun y _ y' _ hne c h1 h2 => ?_)
 ·refine List.Pairwise.map _ (fun a b hab => ?_) (List.nodup_range (n := w))
  intro e
  simp only [Prod.mk.injEq] at e
  exact hab (by omega)
 ·obtain ⟨x, _, rfl⟩ := List.mem_map.1 h1
  obtain ⟨x', _, e⟩ := List.mem_map.1 h2
  simp only [Prod.mk.injEq] at e
  exact hne (by omega)
theorem psz_len {U : Cell → Bool} {w h : Nat} {c : Cell} {l : List Cell} (hU : ∀ d, U d = true → d ∈ cellsL w h) (hc : U c = true) (hn : l.Nodup) (hl : ∀ d, d ∈ l ↔ Reach U c d) : l.length = psz U w h c := by
 unfold psz
 refine len_same hn ((cellsL_nodup w h).sublist List.filter_sublist) fun d => ?_
 rw [hl, List.mem_filter]
 simp only [decide_eq_true_eq]
 exact ⟨fun g => ⟨hU d (g.ok hc), g⟩, fun g => g.2⟩
theorem closed_reach {U : Cell → Bool} {c : Cell} {l : List Cell} (h0 : c ∈ l) (h1 : ∀ d ∈ l, ∀ e ∈ adj d, U e = true → e ∈ l) {d : Cell} (h : Reach U c d) : d ∈ l := by
 induction h with
 | refl => exact h0
 | step _ h2 h3 ih => exact h1 _ ih _ h2 h3
theorem search_ok {U : Cell → Bool} {acc : List Cell} {c : Cell} {l : List Cell} {S S' : Cell → Prop} (hS : ∀ d, S d ↔ ∃ a ∈ acc, Reach U a d) (hacc : ∀ a ∈ acc, U a = true) (hc : U c = true)
  (h0 : c ∈ l) (hr : ∀ d ∈ l, Reach U c d) (hcl : ∀ d ∈ l, ∀ e ∈ adj d, U e = true → S' e) (hS' : ∀ d, S' d ↔ S d ∨ d ∈ l) (hd : ∀ d ∈ l, ¬ S d) : (∀ d, d ∈ l ↔ Reach U c d) ∧ ∀ d, S' d ↔ ∃ a ∈ acc ++ [c], Reach U a d := by
 have key : ∀ d, d ∈ l ↔ Reach U c d := fun d => ⟨hr d, closed_reach h0 fun d hd' e he hu => by
  rcases (hS' e).1 (hcl d hd' e he hu) with h | h
  ·obtain ⟨a, ha, g⟩ := (hS e).1 h
   exact absurd ((hS d).2 ⟨a, ha, g.step (adj_comm he) ((hr d hd').ok hc)⟩) (hd d hd')
  ·exact h⟩
 refine ⟨key, fun d => ?_⟩
 rw [hS', hS, key]
 constructor
 ·rintro (⟨a, ha, g⟩ | g)
  ·exact ⟨a, List.mem_append_left _ ha, g⟩
  ·exact ⟨c, by simp, g⟩
 ·rintro ⟨a, ha, g⟩
  rcases List.mem_append.1 ha with ha | ha
  ·exact .inl ⟨a, ha, g⟩
  ·rw [List.mem_singleton.1 ha] at g
   exact .inr g
section
variable {B : Brd} {K : List Kd} {g : Int}
theorem rowc_full {y x : Nat} : ∀ k, rowc B g y x k = k → ∀ i, i < k → g ≤ gr B (x + i) y
 | 0, _, i, hi => by omega
 | k + 1, h, i, hi => by
  have hle := rowc_le B g y x k
  simp only [rowc] at h
  split at h
  ·rename_i hg
   rcases Nat.lt_succ_iff_lt_or_eq.1 hi with h' | rfl
   ·exact rowc_full k (by omega) i h'
   ·exact hg
  ·omega
theorem cnt_full {x y a : Nat} : ∀ b, cnt B g x y a b = a * b → ∀ i j, i < a → j < b → g ≤ gr B (x + i) (y + j)
 | 0, _, i, j, _, hj => by omega
 | b + 1, h, i, j, hi, hj => by
  have h1 := cnt_le B g x y a b
  have h2 := rowc_le B g (y + b) x a
  simp only [cnt] at h
  rw [Nat.mul_succ] at h
  rcases Nat.lt_succ_iff_lt_or_eq.1 hj with h' | rfl
  ·exact cnt_full b (by omega) i j hi h'
  ·exact rowc_full a (by omega) i hi
theorem fits_full {k : Kd} {r : R4} (hf : (fitsM B k r).isSome = true) : ∀ i j, i < r.a → j < r.b → k.g ≤ gr B (r.x + i) (r.y + j) := by
 unfold fitsM at hf
 split at hf
 ·split at hf
  ·rename_i hc; exact cnt_full _ hc
  ·simp at hf
 ·split at hf
  ·split at hf
   ·rename_i hc; exact cnt_full _ hc
   ·simp at hf
  ·simp at hf
end
def usB (B : Brd) (c : Cell) : Bool := decide (0 ≤ c.1 ∧ 0 ≤ c.2 ∧ c.1 < (bw B : Int) ∧ c.2 < (bh B : Int) ∧ 1 ≤ gr B c.1.toNat c.2.toNat)
theorem usB_in {B : Brd} {d : Cell} (h : usB B d = true) : d ∈ cellsL (bw B) (bh B) := by
 have := of_decide_eq_true h
 exact mem_cellsL.2 ⟨d.1.toNat, d.2.toNat, by omega, by omega, by obtain ⟨x, y⟩ := d; simp only at this ⊢; rw [Int.toNat_of_nonneg (by omega), Int.toNat_of_nonneg (by omega)]⟩
def PartOf (B : Brd) (c : Cell) (P : Brd) : Prop := bw P = bw B ∧ bh P = bh B ∧ ∀ x y : Nat, x < bw B → y < bh B → (Reach (usB B) c ((x : Int), (y : Int)) → gr P x y = gr B x y) ∧ (¬ Reach (usB B) c ((x : Int), (y : Int)) → gr P x y = 0)
theorem parts_law {B : Brd} {K : List Kd} {P : Cell → Brd} {L : List Cell} (hK : ∀ k ∈ K, 1 ≤ k.g) (hP : ∀ c ∈ L, PartOf B c (P c)) (hL : ∀ d, usB B d = true → ∃ c ∈ L, Reach (usB B) c d) {r : R4} (hr : r.ok (bw B) (bh B)) : V (leafM B K) r ≤ (L.map fun c => V (leafM (P c) K) r).sum := by
 refine V_sum (w := bw B) (h := bh B) L (leafM B K) (fun c _ r => leafN_nonneg ..) (fun r hr => ?_) r hr
 have hsum : 0 ≤ (L.map fun c => leafM (P c) K r).sum := sum_nonneg L fun c _ => leafN_nonneg ..
 rcases leafN_wit (B := B) (K := K) (r := r) K.length with e | ⟨i, i1, i2, i3⟩
 ·unfold leafM at *
  rw [e]; exact hsum
 ·have hki : K.getD i default ∈ K := by rw [getD_in _ _ i1]; exact List.getElem_mem _
  have hg := hK _ hki
  have hf := fits_full i2
  obtain ⟨r1, r2, r3, r4⟩ := hr
  have hus : ∀ a b : Nat, a < r.a → b < r.b → usB B ((r.x : Int) + a, (r.y : Int) + b) = true := fun a b ha hb => by
   have := hf a b ha hb
   refine decide_eq_true ⟨by simp only; omega, by simp only; omega, by simp only; omega, by simp only; omega, ?_⟩
   rw [show ((r.x : Int) + a).toNat = r.x + a by omega, show ((r.y : Int) + b).toNat = r.y + b by omega]
   omega
  obtain ⟨c, hc, hrc⟩ := hL _ (hus 0 0 (by omega) (by omega))
  have hall := reach_rect hus
  simp only [Int.natCast_zero, Int.add_zero] at hrc
  have hle : leafM B K r ≤ leafM (P c) K r := leafM_better fun a b ha hb => by
   have := ((hP c hc).2.2 (r.x + a) (r.y + b) (by omega) (by omega)).1 (by have := hrc.trans (hall a b ha hb); rw [Int.natCast_add, Int.natCast_add]; exact this)
   rw [this]; exact Int.le_refl _
  have := le_sum (f := fun c => leafM (P c) K r) (l := L) (fun c _ => leafN_nonneg ..) hc
  exact Int.le_trans hle this
theorem part_le {B P : Brd} {K : List Kd} {c : Cell} (hP : PartOf B c P) (h0 : ∀ x y, x < bw B → y < bh B → 0 ≤ gr B x y) {r : R4} (hr : r.ok (bw B) (bh B)) : V (leafM P K) r ≤ V (leafM B K) r := by
 refine V_mono (w := bw B) (h := bh B) (fun r hr => leafM_better fun a b ha hb => ?_) r hr
 obtain ⟨r1, r2, r3, r4⟩ := hr
 obtain ⟨g1, g2⟩ := hP.2.2 (r.x + a) (r.y + b) (by omega) (by omega)
 by_cases e : Reach (usB B) c (((r.x + a : Nat) : Int), ((r.y + b : Nat) : Int))
 ·rw [g1 e]; exact Int.le_refl _
 ·rw [g2 e]; exact h0 _ _ (by omega) (by omega)
open Go.RowKit
open Go.Proofs.YtedbjmgchfgabaaDoor.Sim
open Go.Proofs
theorem Row.set {M : AM} {b0 s : Nat} {u : Value} {c : List Value} {n j : Nat} {b : Option Blk} (h : Row M b0 s u c n) (hj : NotOf u j) : Row (M.set j b) b0 s u c n := by
 rcases h with h | ⟨a, kd, sz, h1, h2, h3, h4⟩
 ·exact .inl h
 ·refine .inr ⟨a, kd, sz, h1, h2, ?_, h4⟩
  rw [List.getElem?_set_ne]
  ·exact h3
  ·rintro rfl
   exact hj _ _ h2
theorem Row.keep {M M' : AM} {b0 s : Nat} {u : Value} {c : List Value} {n : Nat} (h : Row M b0 s u c n) (hk : ∀ j, j < M.length → ¬ NotOf u j → M'[j]? = M[j]?) : Row M' b0 s u c n := by
 rcases h with h | ⟨a, kd, sz, h1, h2, h3, h4⟩
 ·exact .inl h
 ·exact .inr ⟨a, kd, sz, h1, h2, by rw [hk a (List.getElem?_eq_some_iff.1 h3).1 (fun e => e _ _ h2)]; exact h3, h4⟩
theorem Row.pos {M : AM} {b0 s : Nat} {u : Value} {c : List Value} {n : Nat} (h : Row M b0 s u c n) (hn : 0 < n) : ∃ a kd sz, b0 ≤ a ∧ a < M.length ∧ u = .slice (some ⟨a, 0, none⟩) n n ∧ M[a]? = some (some { cells := c, kind := kd, size := sz }) := by
 rcases h with ⟨_, _, h0⟩ | ⟨a1, kd1, sz1, q1, q2, q3, q4, q5⟩
 ·omega
 ·exact ⟨a1, kd1, sz1, q1, (List.getElem?_eq_some_iff.1 q3).1, q2, q3⟩
def SlV (v : Value) : Prop := v = .slice none 0 0 ∨ ∃ q n c, v = .slice (some q) n c
theorem SlV.one {v : Value} (h : SlV v) : v.oneCell' = true ∧ v.cells = #[v] := by
 rcases h with rfl | ⟨q, n, c, rfl⟩ <;> exact ⟨rfl, rfl⟩
theorem Row.at_ {M : AM} {b0 s : Nat} {u : Value} {c : List Value} {n j : Nat} (h : Row M b0 s u c n) (hj : ¬ NotOf u j) : ∃ b, M[j]? = some (some b) := by
 rcases h with ⟨rfl, _⟩ | ⟨a, kd, sz, _, rfl, h3, _⟩
 ·exact absurd NotOf.nil hj
 ·by_cases e : j = a
  ·subst e; exact ⟨_, h3⟩
  ·exact absurd (fun n' c' e' => by simp only [Value.slice.injEq, Option.some.injEq, Addr.mk.injEq] at e'; exact e e'.1.1.symm) hj
theorem Row.ge_of {M : AM} {b0 s : Nat} {u : Value} {c : List Value} {n j : Nat} (h : Row M b0 s u c n) (hj : ¬ NotOf u j) : b0 ≤ j := by
 rcases Nat.lt_or_ge j b0 with hl | hl
 ·exact absurd (NotOf.row h hl) hj
 ·exact hl
theorem Row.lt_of {M : AM} {b0 s : Nat} {u : Value} {c : List Value} {n j : Nat} (h : Row M b0 s u c n) (hj : ¬ NotOf u j) : j < M.length := by
 obtain ⟨b, hb⟩ := h.at_ hj
 exact (List.getElem?_eq_some_iff.1 hb).1
theorem AW.midX {P : Program} {nt : Nat} {m m0 : AM} {t : Fm} {c : Code} {Q : AEx → Fm → AM → Prop} (id : Nat) (Mid : Fm → AM → Prop) (h : AW P nt m0 c t m (fun e t' m' => e = .exit id ∧ Mid t' m')) (h2 : ∀ t' m', Mid t' m' → Q (.exit id) t' m') : AW P nt m0 c t m Q :=
 h.mono fun e t' m' ⟨e1, e2⟩ => by subst e1; exact h2 _ _ e2
def MidR (id : Nat) (Mid : Fm → AM → Prop) (Q : AEx → Fm → AM → Prop) : AEx → Fm → AM → Prop
 | .exit i, t, m => i = id ∧ Mid t m
 | .ret, t, m => Q .ret t m
 | .normal, _, _ => False
theorem MidR.r {id : Nat} {Mid : Fm → AM → Prop} {Q : AEx → Fm → AM → Prop} {t : Fm} {m : AM} (h : Q .ret t m) : MidR id Mid Q .ret t m := h
theorem MidR.e {id : Nat} {Mid : Fm → AM → Prop} {Q : AEx → Fm → AM → Prop} {t : Fm} {m : AM} (h : Mid t m) : MidR id Mid Q (.exit id) t m := ⟨rfl, h⟩
theorem AW.midR {P : Program} {nt : Nat} {m m0 : AM} {t : Fm} {c : Code} {Q : AEx → Fm → AM → Prop} (id : Nat) (Mid : Fm → AM → Prop) (h : AW P nt m0 c t m (MidR id Mid Q)) (h2 : ∀ t' m', Mid t' m' → Q (.exit id) t' m') : AW P nt m0 c t m Q :=
 h.mono fun e t' m' he => by
  cases e with
  | normal => exact he.elim
  | exit i => obtain ⟨rfl, he⟩ := he; exact h2 t' m' he
  | ret => exact he
structure Pre (K : Nat → Prop) (M M' : AM) : Prop where
 len : M.length ≤ M'.length
 get : ∀ j, K j → M'[j]? = M[j]?
theorem Pre.refl (K : Nat → Prop) (M : AM) : Pre K M M := ⟨Nat.le_refl _, fun _ _ => rfl⟩
theorem Pre.trans {K : Nat → Prop} {A B C : AM} (h : Pre K A B) (g : Pre K B C) : Pre K A C := ⟨Nat.le_trans h.len g.len, fun j hj => by rw [g.get j hj, h.get j hj]⟩
def cellcs (l : List Cell) : List Value := l.flatMap fun c => [.int .i64 c.1, .int .i64 c.2]
theorem cellcs_len (l : List Cell) : (cellcs l).length = l.length * 2 := by
 induction l with
 | nil => rfl
 | cons c l ih => simp only [cellcs, List.flatMap_cons, List.length_append, List.length_cons, List.length_nil] at ih ⊢; omega
theorem cellcs_app (a b : List Cell) : cellcs (a ++ b) = cellcs a ++ cellcs b := by simp [cellcs]
def okc (n : Int) (c : Cell) : Prop := -n ≤ c.1 ∧ c.1 ≤ n ∧ -n ≤ c.2 ∧ c.2 ≤ n
theorem bl88 {a b : Int} : abuild Tryd.prog 88 [(0, .int .i64 a), (1, .int .i64 b)] = some (.agg #[.int .i64 a, .int .i64 b]) := by kernel_rfl
theorem bl130 {a b c d e f g h : Int} : abuild Tryd.prog 130 [(0, .agg #[.int .i64 a, .int .i64 b]), (1, .agg #[.int .i64 c, .int .i64 d]), (2, .agg #[.int .i64 e, .int .i64 f]), (3, .agg #[.int .i64 g, .int .i64 h])] = some (.agg #[.int .i64 a, .int .i64 b, .int .i64 c, .int .i64 d, .int .i64 e, .int .i64 f, .int .i64 g, .int .i64 h]) := by kernel_rfl
theorem ze130 : zeroB Tryd.prog 130 = some #[.int .i64 0, .int .i64 0, .int .i64 0, .int .i64 0, .int .i64 0, .int .i64 0, .int .i64 0, .int .i64 0] := by kernel_rfl
theorem ze127 : zeroB Tryd.prog 127 = some #[.int .i64 0, .int .i64 0, .int .i64 0, .int .i64 0] := by kernel_rfl
theorem ze47r : zeroB Tryd.prog 47 = some #[.int .i64 0, .int .i64 0, .int .i64 0, .int .i64 0] := by kernel_rfl
theorem bl127 {a b c d : Int} : abuild Tryd.prog 127 [(0, .int .i64 a), (1, .int .i64 b), (2, .int .i64 c), (3, .int .i64 d)] = some (.agg #[.int .i64 a, .int .i64 b, .int .i64 c, .int .i64 d]) := by kernel_rfl
theorem bl47 {a b c d : Int} : abuild Tryd.prog 47 [(0, .int .i64 a), (1, .int .i64 b), (2, .int .i64 c), (3, .int .i64 d)] = some (.agg #[.int .i64 a, .int .i64 b, .int .i64 c, .int .i64 d]) := by kernel_rfl
set_option maxRecDepth 100000 in
theorem Sides_ok {m : AM} {x y : Int} (h : okc 1000000 (x, y)) : ACall Tryd.prog 69 #[.agg #[.int .i64 x, .int .i64 y]] m (Ret (.agg (cellcs (adj (x, y))).toArray) m) := by
 obtain ⟨h1, h2, h3, h4⟩ := h
 simp only at h1 h2 h3 h4
 refine ACall.drop (Ren.aggI [x, y - 1, x - 1, y, x + 1, y, x, y + 1]) ?_
 refine ACall.start Tryd.func69 rfl rfl ?_
 (repeat (first|(with_reducible refine AWo.cons ?_)|((with_reducible refine Step.id ?_);first|((with_reducible apply Step.load);exact rfl;((decide +kernel));exact rfl;((exact Rd.new rfl rfl)))|((with_reducible apply Step.field0);exact rfl;((decide +kernel));exact rfl)|((with_reducible apply Step.field (k := 1));exact rfl;((decide +kernel));exact rfl)|((with_reducible apply Step.add);exact rfl;exact rfl;((omega));exact rfl)|((with_reducible apply Step.sub);exact rfl;exact rfl;((omega));exact rfl)|((with_reducible apply Step.box 0);exact rfl;exact rfl;((kernel_rfl));exact rfl;((first|(simp only [zq7, zq8, zq9, zq0, iv_set, bv_set, iv_rep, bv_rep] <;> rfl)|rfl)))|((with_reducible apply Step.alloc 1);exact rfl;exact ze130;exact rfl;((first|(simp only [zq7, zq8, zq9, zq0, iv_set, bv_set, iv_rep, bv_rep] <;> rfl)|rfl)))|((with_reducible apply Step.storeA (k := 1) (n := 8));exact rfl;exact rfl;exact rfl;exact rfl;((decide +kernel));exact rfl;((kernel_rfl));exact rfl;((first|(simp only [zq7, zq8, zq9, zq0, iv_set, bv_set, iv_rep, bv_rep] <;> rfl)|rfl)))|((with_reducible apply Step.build);exact rfl;exact bl88;exact rfl)|((with_reducible apply Step.build);exact rfl;exact bl130;exact rfl))|(with_reducible first|apply AWo.nil|apply AW.seq|apply Then.n|apply AW.regL)))
 (refine AW.ret ?_; (repeat (first | refine Then.r ?_ | refine InBlk.r ?_)))
 exact ⟨_, ares_cell rfl rfl (by decide +kernel) (n := 8) (by decide +kernel) (RdL.new rfl rfl) rfl rfl, rfl, _, rfl⟩
set_option maxRecDepth 100000 in
theorem Nowhere_ok {m : AM} : ACall Tryd.prog 66 #[] m (Ret (.agg #[.int .i64 48, .int .i64 48, .int .i64 (-1), .int .i64 (-1)]) m) := by
 refine ACall.drop (Ren.aggI [48, 48, -1, -1]) ?_
 refine ACall.start Tryd.func66 rfl rfl ?_
 (repeat (first|(with_reducible refine AWo.cons ?_)|((with_reducible refine Step.id ?_);first|((with_reducible apply Step.alloc 0);exact rfl;exact ze127;exact rfl;((first|(simp only [zq7, zq8, zq9, zq0, iv_set, bv_set, iv_rep, bv_rep] <;> rfl)|rfl)))|((with_reducible apply Step.storeA (k := 0) (n := 4));exact rfl;exact rfl;exact rfl;exact rfl;((decide +kernel));exact rfl;((kernel_rfl));exact rfl;((first|(simp only [zq7, zq8, zq9, zq0, iv_set, bv_set, iv_rep, bv_rep] <;> rfl)|rfl)))|((with_reducible apply Step.build);exact rfl;exact bl127;exact rfl))|(with_reducible first|apply AWo.nil|apply AW.seq|apply Then.n|apply AW.regL)))
 (refine AW.ret ?_; (repeat (first | refine Then.r ?_ | refine InBlk.r ?_)))
 exact ⟨_, ares_cell rfl rfl (by decide +kernel) (n := 4) (by decide +kernel) (RdL.new rfl rfl) rfl rfl, rfl, _, rfl⟩
set_option maxRecDepth 100000 in
theorem With_ok {m : AM} {a b c d x y : Int} : ACall Tryd.prog 67 #[.agg #[.int .i64 a, .int .i64 b, .int .i64 c, .int .i64 d], .int .i64 x, .int .i64 y] m (Ret (.agg #[.int .i64 (min a x), .int .i64 (min b y), .int .i64 (max c x), .int .i64 (max d y)]) m) := by
 refine ACall.drop (Ren.aggI [min a x, min b y, max c x, max d y]) ?_
 refine ACall.start Tryd.func67 rfl rfl ?_
 (repeat (first|(with_reducible refine AWo.cons ?_)|((with_reducible refine Step.id ?_);first|((with_reducible apply Step.move);exact rfl;exact rfl)|((with_reducible apply Step.load);exact rfl;((decide +kernel));exact rfl;((exact Rd.new rfl rfl)))|((with_reducible apply Step.field0);exact rfl;((decide +kernel));exact rfl)|((with_reducible apply Step.field (k := 1));exact rfl;((decide +kernel));exact rfl)|((with_reducible apply Step.field (k := 2));exact rfl;((decide +kernel));exact rfl)|((with_reducible apply Step.field (k := 3));exact rfl;((decide +kernel));exact rfl)|((with_reducible apply Step.max);exact rfl;exact rfl;exact rfl)|((with_reducible apply Step.min);exact rfl;exact rfl;exact rfl)|((with_reducible apply Step.box 0);exact rfl;exact rfl;((kernel_rfl));exact rfl;((first|(simp only [zq7, zq8, zq9, zq0, iv_set, bv_set, iv_rep, bv_rep] <;> rfl)|rfl)))|((with_reducible apply Step.alloc 1);exact rfl;exact ze127;exact rfl;((first|(simp only [zq7, zq8, zq9, zq0, iv_set, bv_set, iv_rep, bv_rep] <;> rfl)|rfl)))|((with_reducible apply Step.storeA (k := 1) (n := 4));exact rfl;exact rfl;exact rfl;exact rfl;((decide +kernel));exact rfl;((kernel_rfl));exact rfl;((first|(simp only [zq7, zq8, zq9, zq0, iv_set, bv_set, iv_rep, bv_rep] <;> rfl)|rfl)))|((with_reducible apply Step.build);exact rfl;exact bl127;exact rfl))|(with_reducible first|apply AWo.nil|apply AW.seq|apply Then.n|apply AW.regL)))
 (refine AW.ret ?_; (repeat (first | refine Then.r ?_ | refine InBlk.r ?_)))
 exact ⟨_, ares_cell rfl rfl (by decide +kernel) (n := 4) (by decide +kernel) (RdL.new rfl rfl) rfl rfl, rfl, _, rfl⟩
set_option maxRecDepth 100000 in
theorem Rect_ok {m : AM} {a b c d : Int} (h : -1000 ≤ a ∧ a ≤ 1000 ∧ -1000 ≤ b ∧ b ≤ 1000 ∧ -1000 ≤ c ∧ c ≤ 1000 ∧ -1000 ≤ d ∧ d ≤ 1000) : ACall Tryd.prog 68 #[.agg #[.int .i64 a, .int .i64 b, .int .i64 c, .int .i64 d]] m (Ret (.agg #[.int .i64 a, .int .i64 b, .int .i64 (c - a + 1), .int .i64 (d - b + 1)]) m) := by
 refine ACall.drop (Ren.aggI [a, b, c - a + 1, d - b + 1]) ?_
 refine ACall.start Tryd.func68 rfl rfl ?_
 (repeat (first|(with_reducible refine AWo.cons ?_)|((with_reducible refine Step.id ?_);first|((with_reducible apply Step.load);exact rfl;((decide +kernel));exact rfl;((exact Rd.new rfl rfl)))|((with_reducible apply Step.field0);exact rfl;((decide +kernel));exact rfl)|((with_reducible apply Step.field (k := 1));exact rfl;((decide +kernel));exact rfl)|((with_reducible apply Step.field (k := 2));exact rfl;((decide +kernel));exact rfl)|((with_reducible apply Step.field (k := 3));exact rfl;((decide +kernel));exact rfl)|((with_reducible apply Step.add);exact rfl;exact rfl;((omega));exact rfl)|((with_reducible apply Step.sub);exact rfl;exact rfl;((omega));exact rfl)|((with_reducible apply Step.box 0);exact rfl;exact rfl;((kernel_rfl));exact rfl;((first|(simp only [zq7, zq8, zq9, zq0, iv_set, bv_set, iv_rep, bv_rep] <;> rfl)|rfl)))|((with_reducible apply Step.alloc 1);exact rfl;exact ze47r;exact rfl;((first|(simp only [zq7, zq8, zq9, zq0, iv_set, bv_set, iv_rep, bv_rep] <;> rfl)|rfl)))|((with_reducible apply Step.storeA (k := 1) (n := 4));exact rfl;exact rfl;exact rfl;exact rfl;((decide +kernel));exact rfl;((kernel_rfl));exact rfl;((first|(simp only [zq7, zq8, zq9, zq0, iv_set, bv_set, iv_rep, bv_rep] <;> rfl)|rfl)))|((with_reducible apply Step.build);exact rfl;exact bl47;exact rfl))|(with_reducible first|apply AWo.nil|apply AW.seq|apply Then.n|apply AW.regL)))
 (refine AW.ret ?_; (repeat (first | refine Then.r ?_ | refine InBlk.r ?_)))
 exact ⟨_, ares_cell rfl rfl (by decide +kernel) (n := 4) (by decide +kernel) (RdL.new rfl rfl) rfl rfl, rfl, _, rfl⟩
section
variable {P : Program} {nt : Nat} {ops : Array Oper} {t : Fm} {m : AM} {K : Fm → AM → Prop} {d T : Nat} {p : String} {af : Array Edge}
theorem Step.arrS {x : Operand} {X e a len s : Nat} {M L L' : AM} (hx : evo t x = some (.pointer (some ⟨a, 0, none⟩))) (ho : OwnAt M a L) (hX : P.underlying X = some (.array len e)) (hsz : szB P e = some s) (h0 : Nat.blt 0 len = true) (hs : Nat.blt 0 s = true)
  (hlt : Nat.blt d nt = true) (hL : L ++ [none] = L') (hK : K (put t d (.slice (some ⟨a, 0, none⟩) len len)) (M ++ L')) : Step P nt ops ⟨some d, .slice X x none none none, T, p, af, none⟩ t (M ++ L) K := by
 subst hL
 obtain ⟨b, hb, hk⟩ := ho
 have h0' : 0 < len := by simpa using h0
 have hs' : 0 < s := by simpa using hs
 refine .l rfl rfl hlt (by simp [stillB, hX]) (by simp [Op.operands, hx]) (loudN (L := L) rfl rfl (v := .slice (some ⟨a, 0, none⟩) len len) ?_ hK)
 have hb' : ((M ++ L) ++ [none])[a]? = some (some b) := get_old _ hb
 simp only [aloud, evD_of hx, aslice, hX, hsz, Option.map_none, hb']
 simp only [bnd]
 rw [if_pos ⟨Nat.zero_le _, Nat.le_refl _, .inl hk⟩, List.append_assoc]
 simp
end
theorem un130 : Tryd.prog.underlying 130 = some (.array 4 88) := by kernel_rfl
theorem sz88 : szB Tryd.prog 88 = some 2 := by kernel_rfl
theorem cells8_one (a b c d e f g h : Int) : (Value.agg #[.int .i64 a, .int .i64 b, .int .i64 c, .int .i64 d, .int .i64 e, .int .i64 f, .int .i64 g, .int .i64 h]).cells.all (·.oneCell') = true := by simp [Value.cells, Value.oneCell']
set_option maxRecDepth 100000 in
theorem Beside_ok {m : AM} {x y : Int} (h : okc 1000000 (x, y)) : ACall Tryd.prog 43 #[.agg #[.int .i64 x, .int .i64 y]] m (More (fun M r => Row M m.length 2 r (cellcs (adj (x, y))) 4) m) := by
 refine ACall.start Tryd.func43 rfl rfl ?_
 have hs := fun M : AM => Sides_ok (m := M) h
 have hw1 : (Value.agg (cellcs (adj (x, y))).toArray).cells.all (·.oneCell') = true := cells8_one ..
 (repeat (first|(with_reducible refine AWo.cons ?_)|((with_reducible refine Step.id ?_);first|((with_reducible apply Step.assign);exact rfl;exact rfl)|((with_reducible apply Step.loadL (n := 2));exact rfl;((decide +kernel));((decide +kernel));exact rfl;((exact RdL.new rfl rfl));exact rfl;exact rfl)|((with_reducible apply Step.callR fit);exact rfl;exact Tryd.func69;exact rfl;exact rfl;exact (hs _))|((with_reducible apply Step.box 0);exact rfl;exact rfl;((kernel_rfl));exact rfl;((first|(simp only [zq7, zq8, zq9, zq0, iv_set, bv_set, iv_rep, bv_rep] <;> rfl)|rfl)))|((with_reducible apply Step.alloc 1);exact rfl;exact ze130;exact rfl;((first|(simp only [zq7, zq8, zq9, zq0, iv_set, bv_set, iv_rep, bv_rep] <;> rfl)|rfl)))|((with_reducible apply Step.storeA (k := 1) (n := 8));exact rfl;exact rfl;exact rfl;exact rfl;((decide +kernel));exact rfl;((first|assumption|exact hw1));exact rfl;((first|(simp only [zq7, zq8, zq9, zq0, iv_set, bv_set, iv_rep, bv_rep] <;> rfl)|rfl))))|(with_reducible first|apply AWo.nil|apply AW.seq|apply Then.n|apply AW.regL)))
 ((with_reducible apply Step.arrS (a := m.length + 1));exact rfl;exact (OwnAt.new rfl rfl);exact un130;exact sz88;exact rfl;exact rfl;exact rfl;exact rfl)
 (repeat (first|(with_reducible refine AWo.cons ?_)|((with_reducible refine Step.id ?_);((with_reducible apply Step.assign);exact rfl;exact rfl))|(with_reducible first|apply AWo.nil|apply Then.n)))
 (refine AW.ret ?_; (repeat (first | refine Then.r ?_ | refine InBlk.r ?_)))
 exact ⟨_, rfl, _, rfl, .inr ⟨m.length + 1, .own, _, by omega, rfl, by rw [get_app]; rfl, rfl, .inl rfl⟩⟩
def nrC (x y : Int) (n : Nat) : Cell := (x - 1 + ((n % 3 : Nat) : Int), y - 1 + ((n / 3 : Nat) : Int))
def nrL (x y : Int) (n : Nat) : List Cell := ((List.range n).filter fun k => decide (k ≠ 4)).map (nrC x y)
theorem nrL_succ (x y : Int) (n : Nat) : nrL x y (n + 1) = if n = 4 then nrL x y n else nrL x y n ++ [nrC x y n] := by
 unfold nrL
 rw [List.range_succ, List.filter_append, List.map_append]
 split
 ·rename_i h; subst h; simp
 ·rename_i h; simp [h]
theorem nrL_len (x y : Int) (n : Nat) : (nrL x y n).length ≤ n := by
 unfold nrL
 rw [List.length_map]
 exact Nat.le_trans (List.length_filter_le _ _) (by simp)
theorem el92 : elemB Tryd.prog 92 = some (88, 2, 16, #[.int .i64 0, .int .i64 0]) := by kernel_rfl
theorem un92 : Tryd.prog.underlying 92 = some (.slice 88) := by kernel_rfl
theorem bs92 {m : AM} {k : Nat} {a b : Int} : abuildSlice Tryd.prog m k 92 1 [(0, .agg #[.int .i64 a, .int .i64 b])] = some (.slice (some ⟨k, 0, none⟩) 1 1, m.set k (some { cells := [.int .i64 a, .int .i64 b] })) := by kernel_rfl
set_option maxHeartbeats 16000000 in
set_option maxRecDepth 100000 in
theorem Near_ok {m : AM} {x y : Int} (h : okc 1000000 (x, y)) : ACall Tryd.prog 71 #[.agg #[.int .i64 x, .int .i64 y]] m (More (fun M r => Row M m.length 2 r (cellcs (nrL x y 9)) (nrL x y 9).length) m) := by
 obtain ⟨h1, h2, h3, h4⟩ := h
 simp only at h1 h2 h3 h4
 refine ACall.start Tryd.func71 rfl rfl ?_
 obtain ⟨X, hX⟩ : ∃ X : AM, X = m ++ [some { cells := [.int .i64 x, .int .i64 y] }] := ⟨_, rfl⟩
 have hXl : X.length = m.length + 1 := by rw [hX, List.length_append]; rfl
 have hbX : X[m.length + 0]? = some (some { cells := [.int .i64 x, .int .i64 y] }) := by rw [hX, get_app]; rfl
 have rX : ∀ (Y : AM), (∃ N, Y = X ++ N) → ∀ T, Rd (Y ++ T) (m.length + 0) (0 + 0) (.int .i64 x) ∧ Rd (Y ++ T) (m.length + 0) (0 + 1) (.int .i64 y) := fun Y hY T => by
  obtain ⟨N, rfl⟩ := hY
  exact ⟨Rd.old T ⟨_, get_old N hbX, rfl⟩, Rd.old T ⟨_, get_old N hbX, rfl⟩⟩
 have r0 := rX X ⟨[], by simp⟩
 (repeat (first|(with_reducible refine AWo.cons ?_)|((with_reducible refine Step.id ?_);first|((with_reducible apply Step.assign);exact rfl;exact rfl)|((with_reducible apply Step.box 0);exact rfl;exact rfl;((kernel_rfl));exact rfl;((first|(simp only [zq7, zq8, zq9, zq0, iv_set, bv_set, iv_rep, bv_rep] <;> rfl)|rfl))))|(with_reducible apply AWo.nil)|((fail_if_success (with_reducible refine AW.atR (id := 2) ?_));(with_reducible apply AW.seq))|(with_reducible first|apply Then.n|apply AW.regL)))
 rw [show (m ++ [some { cells := (Value.agg #[.int .i64 x, .int .i64 y]).cells.toList }] : AM) = X from hX.symm]
 generalize m.length + 0 = bx at *
 rw [← List.append_nil X]
 (repeat (first|(with_reducible refine AWo.cons ?_)|((with_reducible refine Step.id ?_);first|((with_reducible apply Step.assign);exact rfl;exact rfl)|((with_reducible apply Step.load);exact rfl;((decide +kernel));exact rfl;((exact (r0 _).2)))|((with_reducible apply Step.field (k := 1));exact rfl;((decide +kernel));exact rfl)|((with_reducible apply Step.sub);exact rfl;exact rfl;((omega));exact rfl))|(with_reducible first|apply AWo.nil|apply AW.seq|apply Then.n|apply AW.regL|apply AW.block)))
 refine AW.midX 0 (fun t' M => ∃ r, Row M X.length 2 r (cellcs (nrL x y 9)) (nrL x y 9).length ∧ (∃ N, M = X ++ N) ∧ All (fun i v => t' i = some v) [(3, r)]) ?_ ?_
 ·refine AW.loopW (fun q t M => ∃ (i : Nat) (r : Value), q = 3 - i ∧ i ≤ 3 ∧ Row M X.length 2 r (cellcs (nrL x y (3 * i))) (nrL x y (3 * i)).length ∧ (∃ N, M = X ++ N) ∧
   t = fr [(1, .pointer (some ⟨bx, 0, none⟩)), (3, r), (4, .int .i64 (y - 1 + ((i : Nat) : Int)))]) ⟨_, [(1, .pointer (some ⟨bx, 0, none⟩)), (3, .slice none 0 0), (4, .int .i64 (y - 1 + ((0 : Nat) : Int)))], by simp only [Int.natCast_zero, Int.add_zero]; exact (by repeat (first | exact trivial | (refine And.intro rfl ?_))), 0, .slice none 0 0, rfl, Nat.zero_le _, Row.nil, ⟨[], rfl⟩, rfl⟩ ?_
  rintro q t M ⟨i, r, rfl, hi, hr, hM, rfl⟩
  have rM := rX M hM
  rcases Nat.lt_or_ge i 3 with hlt | hge
  ·refine AW.rebase ?_
   (repeat (first|(with_reducible refine AWo.cons ?_)|((with_reducible refine Step.id ?_);first|((with_reducible apply Step.move);exact rfl;exact rfl)|((with_reducible apply Step.assign);exact rfl;exact rfl)|((with_reducible apply Step.load);exact rfl;((decide +kernel));exact rfl;((first|exact (rM _).1|exact (rM _).2)))|((with_reducible apply Step.field0);exact rfl;((decide +kernel));exact rfl)|((with_reducible apply Step.field (k := 1));exact rfl;((decide +kernel));exact rfl)|((with_reducible apply Step.add);exact rfl;exact rfl;((omega));exact rfl)|((with_reducible apply Step.sub);exact rfl;exact rfl;((omega));exact rfl)|((with_reducible apply Step.leq);exact rfl;exact rfl;exact rfl))|(with_reducible first|apply AWo.nil|apply AW.seq|apply Then.n|apply AW.regL|apply AW.block|apply AW.skip)|((with_reducible apply AW.condT);exact rfl;(((simp only [zq1, zq2, zq3, zq4, zq5, zq6];first|assumption|omega))))))
   refine AW.midX 2 (fun t' M' => ∃ r', Row M' X.length 2 r' (cellcs (nrL x y (3 * (i + 1)))) (nrL x y (3 * (i + 1))).length ∧ (∃ N, M' = X ++ N) ∧ All (fun i v => t' i = some v) [(1, .pointer (some ⟨bx, 0, none⟩)), (3, r'), (4, .int .i64 (y - 1 + ((i : Nat) : Int)))]) ?_ ?_
   ·refine AW.loopW (fun q t M => ∃ (j : Nat) (r : Value), q = 3 - j ∧ j ≤ 3 ∧ Row M X.length 2 r (cellcs (nrL x y (3 * i + j))) (nrL x y (3 * i + j)).length ∧ (∃ N, M = X ++ N) ∧
     t = fr [(1, .pointer (some ⟨bx, 0, none⟩)), (3, r), (4, .int .i64 (y - 1 + ((i : Nat) : Int))), (5, .int .i64 (x - 1 + ((j : Nat) : Int)))]) ⟨_, [(1, .pointer (some ⟨bx, 0, none⟩)), (3, r), (4, .int .i64 (y - 1 + ((i : Nat) : Int))), (5, .int .i64 (x - 1 + ((0 : Nat) : Int)))], by simp only [Int.natCast_zero, Int.add_zero]; exact (by repeat (first | exact trivial | (refine And.intro rfl ?_))), 0, r, rfl, Nat.zero_le _, by rw [List.append_nil]; exact hr, by rw [List.append_nil]; exact hM, rfl⟩ ?_
    rintro q t M1 ⟨j, r1, rfl, hj, hr1, hM1, rfl⟩
    have rM1 := rX M1 hM1
    rcases Nat.lt_or_ge j 3 with hlt' | hge
    ·have hsu := nrL_succ x y (3 * i + j)
     by_cases hc : 3 * i + j = 4
     ·rw [if_pos hc] at hsu
      obtain rfl : j = 1 := by omega
      obtain rfl : i = 1 := by omega
      refine AW.rebase ?_
      (repeat (first|(with_reducible refine AWo.cons ?_)|((with_reducible refine Step.id ?_);first|((with_reducible apply Step.gdT);exact rfl;exact rfl;(((simp only [zq1, zq2, zq3, zq4, zq5, zq6];first|assumption|omega))))|((with_reducible apply Step.move);exact rfl;exact rfl)|((with_reducible apply Step.assign);exact rfl;exact rfl)|((with_reducible apply Step.load);exact rfl;((decide +kernel));exact rfl;((first|exact (rM1 _).1|exact (rM1 _).2)))|((with_reducible apply Step.field0);exact rfl;((decide +kernel));exact rfl)|((with_reducible apply Step.field (k := 1));exact rfl;((decide +kernel));exact rfl)|((with_reducible apply Step.add);exact rfl;exact rfl;((omega));exact rfl)|((with_reducible apply Step.leq);exact rfl;exact rfl;exact rfl)|((with_reducible apply Step.neq);exact rfl;exact rfl;exact rfl)|((with_reducible apply Step.pickF);exact rfl;exact rfl;exact rfl;exact rfl;(((simp only [zq1, zq2, zq3, zq4, zq5, zq6];first|assumption|omega)))))|(with_reducible first|apply AWo.nil|apply AW.seq|apply Then.n|apply AW.regL|apply AW.block|apply InBlk.n|apply AW.skip)|((with_reducible apply AW.condT);exact rfl;(((simp only [zq1, zq2, zq3, zq4, zq5, zq6];first|assumption|omega))))|((with_reducible apply AW.condF);exact rfl;(((simp only [zq1, zq2, zq3, zq4, zq5, zq6];first|assumption|omega))))))
      exact ⟨_, [(1, .pointer (some ⟨bx, 0, none⟩)), (3, r1), (4, .int .i64 (y - 1 + ((1 : Nat) : Int))), (5, .int .i64 (x - 1 + ((1 : Nat) : Int) + 1))], by omega, (by repeat (first | exact trivial | (refine And.intro rfl ?_))), 2, r1, rfl, by omega, by rw [List.append_nil]; rw [← hsu] at hr1; exact hr1, by rw [List.append_nil]; exact hM1, by rw [show x - 1 + ((1 : Nat) : Int) + 1 = x - 1 + ((2 : Nat) : Int) by omega]⟩
     ·rw [if_neg hc] at hsu
      have hnc : nrC x y (3 * i + j) = (x - 1 + ((j : Nat) : Int), y - 1 + ((i : Nat) : Int)) := by
       unfold nrC
       rw [show (3 * i + j) % 3 = j by omega, show (3 * i + j) / 3 = i by omega]
      have hcs : cellcs (nrL x y (3 * i + (j + 1))) = cellcs (nrL x y (3 * i + j)) ++ [.int .i64 (x - 1 + ((j : Nat) : Int)), .int .i64 (y - 1 + ((i : Nat) : Int))] := by
       rw [show 3 * i + (j + 1) = 3 * i + j + 1 by omega, hsu, cellcs_app, hnc]; rfl
      have hcl : (nrL x y (3 * i + (j + 1))).length = (nrL x y (3 * i + j)).length + 1 := by
       rw [show 3 * i + (j + 1) = 3 * i + j + 1 by omega, hsu]; simp
      have hnl := nrL_len x y (3 * i + j)
      have hne : (x - 1 + ((j : Nat) : Int) ≠ x) ∨ (x - 1 + ((j : Nat) : Int) = x ∧ y - 1 + ((i : Nat) : Int) ≠ y) := by omega
      refine AW.rebase ?_
      rcases hne with hne | ⟨hne, hne2⟩
      all_goals
       (repeat (first|(with_reducible refine AWo.cons ?_)|((with_reducible refine Step.id ?_);first|((with_reducible apply Step.gdT);exact rfl;exact rfl;(((simp only [zq1, zq2, zq3, zq4, zq5, zq6];first|assumption|omega))))|((with_reducible apply Step.gdF);exact rfl;exact rfl;(((simp only [zq1, zq2, zq3, zq4, zq5, zq6];first|assumption|omega))))|((with_reducible apply Step.move);exact rfl;exact rfl)|((with_reducible apply Step.load);exact rfl;((decide +kernel));exact rfl;((first|exact (rM1 _).1|exact (rM1 _).2)))|((with_reducible apply Step.field0);exact rfl;((decide +kernel));exact rfl)|((with_reducible apply Step.field (k := 1));exact rfl;((decide +kernel));exact rfl)|((with_reducible apply Step.add);exact rfl;exact rfl;((omega));exact rfl)|((with_reducible apply Step.leq);exact rfl;exact rfl;exact rfl)|((with_reducible apply Step.neq);exact rfl;exact rfl;exact rfl)|((with_reducible apply Step.pickT);exact rfl;exact rfl;exact rfl;exact rfl;(((simp only [zq1, zq2, zq3, zq4, zq5, zq6];first|assumption|omega))))|((with_reducible apply Step.pickF);exact rfl;exact rfl;exact rfl;exact rfl;(((simp only [zq1, zq2, zq3, zq4, zq5, zq6];first|assumption|omega))))|((with_reducible apply Step.buildS 0);exact rfl;exact rfl;exact (fun _ _ => bs92);exact rfl;((first|(simp only [zq7, zq8, zq9, zq0, iv_set, bv_set, iv_rep, bv_rep] <;> rfl)|rfl)))|((with_reducible apply Step.build);exact rfl;exact bl88;exact rfl))|(with_reducible first|apply AWo.nil|apply AW.seq|apply Then.n|apply AW.regL|apply AW.block|apply AW.skip)|((with_reducible apply AW.condT);exact rfl;((first|rfl|(simp only [zq1, zq2, zq3, zq4, zq5, zq6];first|assumption|omega))))))
       ((with_reducible apply Step.appRow2 (s := 2) (n := (nrL x y (3 * i + j)).length) (xl := 1) (b0 := X.length) (c := cellcs (nrL x y (3 * i + j))) (new := [.int .i64 (x - 1 + ((j : Nat) : Int)), .int .i64 (y - 1 + ((i : Nat) : Int))]));exact rfl;exact rfl;exact (hr1.old _);exact (Sl.mk (Nat.le_refl _));exact (fun _ => RdL.new rfl rfl);exact el92;exact un92;exact rfl;exact rfl;exact rfl;((omega));exact rfl;((obtain ⟨N, rfl⟩ := hM1;simp only [List.length_append];omega)))
       intro r2 M2 hr2 hml2 hk2 _
       have hM2 := pre_keep (m0 := X) (M := M1 ++ [some { cells := [.int .i64 (x - 1 + ((j : Nat) : Int)), .int .i64 (y - 1 + ((i : Nat) : Int))] }]) (by obtain ⟨N, rfl⟩ := hM1; exact ⟨_, List.append_assoc ..⟩) hml2 fun q hq => hk2 q (by obtain ⟨N, rfl⟩ := hM1; simp only [List.length_append]; omega) (NotOf.row hr1 hq)
       rw [← hcs, ← hcl] at hr2
       rw [← List.append_nil M2]
       (repeat (first|(with_reducible refine AWo.cons ?_)|((with_reducible refine Step.id ?_);first|((with_reducible apply Step.move);exact rfl;exact rfl)|((with_reducible apply Step.assign);exact rfl;exact rfl)|((with_reducible apply Step.add);exact rfl;exact rfl;((omega));exact rfl))|(with_reducible first|apply AWo.nil|apply Then.n|apply AW.regL|apply InBlk.n)))
       exact ⟨_, [(1, .pointer (some ⟨bx, 0, none⟩)), (3, r2), (4, .int .i64 (y - 1 + ((i : Nat) : Int))), (5, .int .i64 (x - 1 + ((j : Nat) : Int) + 1))], by omega, (by repeat (first | exact trivial | (refine And.intro rfl ?_))), j + 1, r2, rfl, by omega, by rw [List.append_nil]; exact hr2, by rw [List.append_nil]; exact hM2, by rw [show x - 1 + ((j : Nat) : Int) + 1 = x - 1 + ((j + 1 : Nat) : Int) by omega]⟩
    ·obtain rfl : j = 3 := by omega
     refine AW.rebase ?_
     (repeat (first|(with_reducible refine AWo.cons ?_)|((with_reducible refine Step.id ?_);first|((with_reducible apply Step.move);exact rfl;exact rfl)|((with_reducible apply Step.load);exact rfl;((decide +kernel));exact rfl;((exact (rM1 _).1)))|((with_reducible apply Step.field0);exact rfl;((decide +kernel));exact rfl)|((with_reducible apply Step.add);exact rfl;exact rfl;((omega));exact rfl)|((with_reducible apply Step.leq);exact rfl;exact rfl;exact rfl))|(with_reducible first|apply AWo.nil|apply AW.seq|apply Then.n|apply AW.regL|apply AW.exit|apply Then.e)|((with_reducible apply AW.condF);exact rfl;(((simp only [zq1, zq2, zq3, zq4, zq5, zq6];first|assumption|omega))))))
     exact ⟨rfl, r1, by rw [List.append_nil, show 3 * (i + 1) = 3 * i + 3 by omega]; exact hr1, by rw [List.append_nil]; exact hM1, (by repeat (first | exact trivial | (refine And.intro rfl ?_)))⟩
   ·rintro t' M1 ⟨r1, hr1, hM1, hsl⟩
    refine InBlk.hit ?_
    refine InBlk.n ?_
    refine Then.n ?_
    refine AW.weak (fr_all hsl) ?_
    clear hsl
    rw [← List.append_nil M1]
    (repeat (first|(with_reducible refine AWo.cons ?_)|((with_reducible refine Step.id ?_);first|((with_reducible apply Step.move);exact rfl;exact rfl)|((with_reducible apply Step.assign);exact rfl;exact rfl)|((with_reducible apply Step.add);exact rfl;exact rfl;((omega));exact rfl))|(with_reducible first|apply AWo.nil|apply Then.n|apply AW.regL)))
    exact ⟨_, [(1, .pointer (some ⟨bx, 0, none⟩)), (3, r1), (4, .int .i64 (y - 1 + ((i : Nat) : Int) + 1))], by omega, (by repeat (first | exact trivial | (refine And.intro rfl ?_))), i + 1, r1, rfl, by omega, by rw [List.append_nil]; exact hr1, by rw [List.append_nil]; exact hM1, by rw [show y - 1 + ((i : Nat) : Int) + 1 = y - 1 + ((i + 1 : Nat) : Int) by omega]⟩
  ·obtain rfl : i = 3 := by omega
   refine AW.rebase ?_
   (repeat (first|(with_reducible refine AWo.cons ?_)|((with_reducible refine Step.id ?_);first|((with_reducible apply Step.move);exact rfl;exact rfl)|((with_reducible apply Step.load);exact rfl;((decide +kernel));exact rfl;((exact (rM _).2)))|((with_reducible apply Step.field (k := 1));exact rfl;((decide +kernel));exact rfl)|((with_reducible apply Step.add);exact rfl;exact rfl;((omega));exact rfl)|((with_reducible apply Step.leq);exact rfl;exact rfl;exact rfl))|(with_reducible first|apply AWo.nil|apply AW.seq|apply Then.n|apply AW.regL|apply AW.exit|apply Then.e)|((with_reducible apply AW.condF);exact rfl;(((simp only [zq1, zq2, zq3, zq4, zq5, zq6];first|assumption|omega))))))
   exact ⟨rfl, r, by rw [List.append_nil]; exact hr, by rw [List.append_nil]; exact hM, (by repeat (first | exact trivial | (refine And.intro rfl ?_)))⟩
 ·rintro t' M ⟨r, hr, hM, hsl⟩
  refine InBlk.hit ?_
  refine Then.n ?_
  refine AW.weak (fr_all hsl) ?_
  clear hsl
  rw [← List.append_nil M]
  (repeat (first|(with_reducible refine AWo.cons ?_)|((with_reducible refine Step.id ?_);first|((with_reducible apply Step.move);exact rfl;exact rfl)|((with_reducible apply Step.assign);exact rfl;exact rfl))|(with_reducible first|apply AWo.nil|apply AW.seq|apply Then.n|apply AW.regL)))
  (refine AW.ret ?_; (repeat (first | refine Then.r ?_ | refine InBlk.r ?_)))
  obtain ⟨N, hN⟩ := hM
  exact ⟨_, rfl, _, by rw [List.append_nil, hN, hX, List.append_assoc], by rw [List.append_nil]; exact hr.low (by omega)⟩
end Go.Proofs.YtedbjmgchfgabaaDoor.Abs
