import Derived.Test.YtmomjannlnafcaaAbs5
namespace Go.Proofs.Ytmomjannlnafcaa.Abs
set_option linter.unusedSimpArgs false
set_option linter.unusedVariables false
open Go.RowKit
open Go.Proofs.Ytmomjannlnafcaa.Sim
section
variable {P : Program} {nt id : Nat} {m m0 : AM} {t : Fm} {Q : AEx → Fm → AM → Prop} {K : Fm → AM → Prop}
theorem Then.n (h : K t m) : Then K Q .normal t m := h
theorem Then.e {i : Nat} (h : Q (.exit i) t m) : Then K Q (.exit i) t m := h
theorem Then.r (h : Q .ret t m) : Then K Q .ret t m := h
theorem InBlk.n (h : Q .normal t m) : InBlk id Q .normal t m := h
theorem InBlk.r (h : Q .ret t m) : InBlk id Q .ret t m := h
theorem InBlk.hit (h : Q .normal t m) : InBlk id Q (.exit id) t m := by simp only [InBlk, if_true]; exact h
theorem InBlk.miss {i : Nat} (hne : Nat.beq i id = false) (h : Q (.exit i) t m) : InBlk id Q (.exit i) t m := by
  have : i ≠ id := fun e => by rw [e] at hne; simp at hne
  simp only [InBlk, if_neg this]; exact h
theorem AW.condT {c : Operand} {a b : Code} {q : Bool} (hc : evo t c = some (.bool q)) (hq : q = true) (h : AW P nt m0 a t m Q) : AW P nt m0 (.cond c a b) t m Q := .cond hc (fun _ => h) (fun e => by rw [hq] at e; cases e)
theorem AW.condF {c : Operand} {a b : Code} {q : Bool} (hc : evo t c = some (.bool q)) (hq : q = false) (h : AW P nt m0 b t m Q) : AW P nt m0 (.cond c a b) t m Q := .cond hc (fun e => by rw [hq] at e; cases e) (fun _ => h)
/-- A condition that is a test. -/
theorem AW.test {c : Operand} {a b : Code} {p : Prop} [Decidable p] (hc : evo t c = some (.bool (decide p))) (h1 : p → AW P nt m0 a t m Q) (h2 : ¬ p → AW P nt m0 b t m Q) : AW P nt m0 (.cond c a b) t m Q := .cond hc (fun e => h1 (of_decide_eq_true e)) (fun e => h2 (of_decide_eq_false e))
theorem AW.testN {c : Operand} {a b : Code} {p : Prop} [Decidable p] (hc : evo t c = some (.bool (!decide p))) (h1 : ¬ p → AW P nt m0 a t m Q) (h2 : p → AW P nt m0 b t m Q) : AW P nt m0 (.cond c a b) t m Q :=
  .cond hc (fun e => h1 (by simpa using e)) (fun e => h2 (by simpa using e))
def All (p : Nat → Value → Prop) : List (Nat × Value) → Prop
  | [] => True
  | (d, v) :: l => p d v ∧ All p l
theorem fr_all {p : Nat → Value → Prop} : ∀ {l : List (Nat × Value)}, All p l → ∀ i v, fr l i = some v → p i v
  | [], _, i, v, h => by simp [fr] at h
  | (d, x) :: l, ⟨h1, h2⟩, i, v, h => by
    by_cases e : i = d
    · subst e
      simp only [fr, put_same, Option.some.injEq] at h
      subst h; exact h1
    · simp only [fr, put_ne _ _ e] at h
      exact fr_all h2 i v h
theorem AW.weak {c : Code} {t1 : Fm} (hs : ∀ i v, t1 i = some v → t i = some v) (h : AW P nt m0 c t1 m Q) : AW P nt m0 c t m Q :=
  fun base R0 w0 R a w hb h0 hp ht => h base R0 w0 R a w hb h0 hp (ht.weak hs)
/-- A loop, the memory's names kept. -/
theorem AW.loopW {c : Code} (I : Nat → Fm → AM → Prop) (h0 : ∃ k l, All (fun i v => t i = some v) l ∧ I k (fr l) m)
    (round : ∀ k t m, I k t m → AW P nt m0 c t m (Then (fun t' m' => ∃ k' l, k' < k ∧ All (fun i v => t' i = some v) l ∧ I k' (fr l) m') Q)) : AW P nt m0 (.loop c) t m Q := by
  obtain ⟨k, l, h1, h2⟩ := h0
  refine .weak (fr_all h1) ?_
  intro base R0 w0 R ac w hb hm0 hp ht
  let J : Nat → Act → World → Prop := fun k a w => ∃ t m R, I k t m ∧ Post base m0 m R0 R w0 w ∧ FR R nt t a.tmps ∧ a.defers = ac.defers
  have hJ0 : ∃ k, J k ac w := ⟨k, fr l, m, R, h2, hp, ht, rfl⟩
  open Classical in
  let μ : Act → World → Nat := fun a w => if h : ∃ k, J k a w then Classical.choose (least _ h) else 0
  have hμ : ∀ a w (h : ∃ k, J k a w), J (μ a w) a w ∧ ∀ k, J k a w → μ a w ≤ k := fun a w h => by
    have hs := Classical.choose_spec (least _ h)
    have e : μ a w = Classical.choose (least _ h) := dif_pos h
    rw [e]
    exact ⟨hs.1, fun k hk => Nat.le_of_not_lt fun hlt => hs.2 k hlt hk⟩
  refine wp_loop (fun a w => ∃ k, J k a w) μ hJ0 fun a w hJ => ?_
  obtain ⟨⟨t2, m2, R2, q1, q2, q3, q4⟩, _⟩ := hμ a w hJ
  refine wp_mono (round _ _ _ q1 base R0 w0 R2 a w hb hm0 q2 q3) ?_
  rintro ex a' w' ⟨e, t', m', R', rfl, h2, h3, h4, h5⟩
  cases e with
  | normal =>
    obtain ⟨k', l', r1, r2, r3⟩ := h5
    have hJ' : J k' a' w' := ⟨fr l', m', R', r3, h3, h4.weak (fr_all r2), h2.trans q4⟩
    exact ⟨⟨k', hJ'⟩, Nat.lt_of_le_of_lt ((hμ a' w' ⟨k', hJ'⟩).2 k' hJ') r1⟩
  | exit i => exact ⟨.exit i, t', m', R', rfl, h2.trans q4, h3, h4, h5⟩
  | ret => exact ⟨.ret, t', m', R', rfl, h2.trans q4, h3, h4, h5⟩
def rid : Nat → Nat := fun i => i
theorem Ren.of_sl {N : Nat} {v : Value} {a o n : Nat} (h : Sl v a o n) (ha : a < N) : Ren rid N v v := by
  rcases h with ⟨rfl, _⟩ | ⟨c, _, rfl⟩
  · exact .sliceNil
  · exact .slice a o n c ha
theorem Ren.of_g0 {N : Nat} {ρ : Nat → Nat} {v : Value} (h : g0 v = true) : Ren ρ N v v := .of_rel (N := 0) (R := fun _ => none) (x := v) (g0_rel h) (fun _ _ => rfl) (Nat.zero_le _) (fun i hi => absurd hi (by omega))
/-- All that the call made is let go. -/
theorem Gc.drop {M L : AM} {l : List (Nat × Value)} (h : All (fun i v => t i = some v ∧ Ren rid M.length v v) l) : Gc M t (M ++ L) (fr l) M :=
  ⟨rid, Nat.le_refl _, fun _ _ => rfl, fun _ _ _ _ _ _ e => e, fun j b hj => .inl ⟨(List.getElem?_eq_some_iff.1 hj).1, get_old L hj, hj⟩, fun i v hi => by
    obtain ⟨h1, h2⟩ := fr_all h i v hi
    exact ⟨v, h1, h2⟩⟩
/-- Of the call's own blocks the first ones are kept. -/
theorem Gc.trim {M L L1 L2 : AM} {l : List (Nat × Value)} (hL : L = L1 ++ L2) (hc : ∀ b, some b ∈ L1 → ∀ v ∈ b.cells, Ren rid (M.length + L1.length) v v) (h : All (fun i v => t i = some v ∧ Ren rid (M.length + L1.length) v v) l) : Gc M t (M ++ L) (fr l) (M ++ L1) := by
  subst hL
  refine ⟨rid, by simp, fun _ _ => rfl, fun _ _ _ _ _ _ e => e, fun j b hj => ?_, fun i v hi => by
    obtain ⟨h1, h2⟩ := fr_all h i v hi
    exact ⟨v, h1, by simpa using h2⟩⟩
  rcases Nat.lt_or_ge j M.length with hlt | hge
  · rw [List.getElem?_append_left hlt] at hj
    exact .inl ⟨hlt, get_old _ hj, hj⟩
  · have hj' := hj
    rw [List.getElem?_append_right hge] at hj
    have hjl := (List.getElem?_eq_some_iff.1 hj).1
    refine .inr ⟨b, ?_, rfl, rfl, rfl, fun k v hk => ⟨v, hk, ?_⟩⟩
    · show (M ++ (L1 ++ L2))[j]? = _
      rw [List.getElem?_append_right hge, List.getElem?_append_left hjl]; exact hj
    · have := hc b (List.mem_of_getElem? hj) v (List.mem_of_getElem? hk)
      simpa using this
end
section
variable {P : Program} {nt : Nat} {ops : Array Oper} {t : Fm} {m : AM} {K : Fm → AM → Prop} {T : Nat} {p : String} {af : Array Edge}
theorem Step.id {o : Oper} (h : Step P nt ops o t m K) : Step P nt ops o t m K := h
def dOk (d : Option Tmp) (n : Nat) : Bool := match d with
  | some d => Nat.blt d n
  | none => true
theorem dOk_of {d : Option Tmp} (h : dOk d nt = true) : ∀ e, d = some e → e < nt := fun e he => by subst he; simpa [dOk] using h
theorem Step.gdT {o : Op} {dd : Option Tmp} {j : Nat} {b q : Bool} (hd : dOk dd nt = true) (hv : gval ops t j = some (.bool q)) (hq : q = b) (h1 : Step P nt ops ⟨dd, o, T, p, af, none⟩ t m K) : Step P nt ops ⟨dd, o, T, p, af, some (j, b)⟩ t m K :=
  .gd (dOk_of hd) hv (fun _ => h1) (fun h => by rw [hq] at h; cases b <;> cases h)
theorem Step.gdF {o : Op} {dd : Option Tmp} {j : Nat} {b q : Bool} (hd : dOk dd nt = true) (hv : gval ops t j = some (.bool q)) (hq : q = !b) (h1 : K (putO t dd undef) m) : Step P nt ops ⟨dd, o, T, p, af, some (j, b)⟩ t m K :=
  .gd (dOk_of hd) hv (fun h => by rw [hq] at h; cases b <;> cases h) (fun _ => h1)
theorem Step.gdU {o : Op} {dd : Option Tmp} {j : Nat} {b : Bool} (hd : dOk dd nt = true) (hv : gval ops t j = some undef) (h1 : K (putO t dd undef) m) : Step P nt ops ⟨dd, o, T, p, af, some (j, b)⟩ t m K :=
  .gu (dOk_of hd) hv h1
/-- A guard that is a test: both ways. -/
theorem Step.gdB {o : Op} {dd : Option Tmp} {j : Nat} {b q : Bool} (hd : dOk dd nt = true) (hv : gval ops t j = some (.bool q)) (h1 : q = b → Step P nt ops ⟨dd, o, T, p, af, none⟩ t m K) (h2 : q = !b → K (putO t dd undef) m) : Step P nt ops ⟨dd, o, T, p, af, some (j, b)⟩ t m K :=
  .gd (dOk_of hd) hv h1 h2
theorem Step.pickT {d : Nat} {c x y : Operand} {q : Bool} {v u : Value} (hc : evo t c = some (.bool q)) (hx : evo t x = some v) (hy : evo t y = some u) (hlt : Nat.blt d nt = true) (hq : q = true) (h1 : K (put t d v) m) : Step P nt ops ⟨some d, .pick c x y, T, p, af, none⟩ t m K :=
  .pick hc hx hy hlt (fun _ => h1) (fun h => by rw [hq] at h; cases h)
theorem Step.pickF {d : Nat} {c x y : Operand} {q : Bool} {v u : Value} (hc : evo t c = some (.bool q)) (hx : evo t x = some v) (hy : evo t y = some u) (hlt : Nat.blt d nt = true) (hq : q = false) (h1 : K (put t d u) m) : Step P nt ops ⟨some d, .pick c x y, T, p, af, none⟩ t m K :=
  .pick hc hx hy hlt (fun h => by rw [hq] at h; cases h) (fun _ => h1)
/-- 'a || b' without a branch: both are known. -/
theorem Step.pickB {d : Nat} {c x y : Operand} {q a b : Bool} (hc : evo t c = some (.bool q)) (hx : evo t x = some (.bool a)) (hy : evo t y = some (.bool b)) (hlt : Nat.blt d nt = true) (h1 : K (put t d (.bool (if q then a else b))) m) : Step P nt ops ⟨some d, .pick c x y, T, p, af, none⟩ t m K :=
  .pick hc hx hy hlt (fun h => by rw [if_pos h] at h1; exact h1) (fun h => by rw [if_neg (by rw [h]; decide)] at h1; exact h1)
end
theorem Sl.mk {a o n c : Nat} (h : n ≤ c) : Sl (.slice (some ⟨a, o, none⟩) n c) a o n := .inr ⟨c, h, rfl⟩
theorem Sl.nil (a o : Nat) : Sl (.slice none 0 0) a o 0 := .inl ⟨rfl, rfl⟩
/-- A slice of ints that reads as l. -/
def Ints (m : AM) (v : Value) (l : List Int) : Prop := ∃ a o, Sl v a o l.length ∧ a < m.length ∧ ∀ k, k < l.length → Rd m a (o + k) (.int .i64 (l.getD k 0))
def Nats (m : AM) (v : Value) (l : List Nat) : Prop := ∃ a o, Sl v a o l.length ∧ a < m.length ∧ ∀ k, k < l.length → Rd m a (o + k) (.int .i64 ((l.getD k 0 : Nat) : Int))
theorem Ints.old {m : AM} {v : Value} {l : List Int} (L : AM) (h : Ints m v l) : Ints (m ++ L) v l := by
  obtain ⟨a, o, h1, h2, h3⟩ := h
  exact ⟨a, o, h1, by simp; omega, fun k hk => (h3 k hk).old L⟩
theorem Nats.old {m : AM} {v : Value} {l : List Nat} (L : AM) (h : Nats m v l) : Nats (m ++ L) v l := by
  obtain ⟨a, o, h1, h2, h3⟩ := h
  exact ⟨a, o, h1, by simp; omega, fun k hk => (h3 k hk).old L⟩
end Go.Proofs.Ytmomjannlnafcaa.Abs
