/- Proved here: what the proof of BenchPunctual rests on, part 2 of 4. Conditions: those that each theorem names. -/
import Derived.Test.YtmomjannlnafcaaBenchPunctualK1
namespace Go.Proofs.Ytmomjannlnafcaa.Abs
set_option linter.unusedSimpArgs false
set_option linter.unusedVariables false
open Go.RowKit
open Go.Proofs.Ytmomjannlnafcaa.Sim
/-- The value v' is the value v with the blocks named anew: block i of v is block ρ i of v'. -/
inductive Ren (ρ : Nat → Nat) (n : Nat) : Value → Value → Prop
  | bool (b : Bool) : Ren ρ n (.bool b) (.bool b)
  | int (k : IntKind) (x : Int) : Ren ρ n (.int k x) (.int k x)
  | float (k : FloatKind) (x : Nat) : Ren ρ n (.float k x) (.float k x)
  | complex (k : FloatKind) (x y : Nat) : Ren ρ n (.complex k x y) (.complex k x y)
  | string (s : ByteArray) : Ren ρ n (.string s) (.string s)
  | ptrNil : Ren ρ n (.pointer none) (.pointer none)
  | ptr (i o : Nat) (h : i < n) : Ren ρ n (.pointer (some ⟨i, o, none⟩)) (.pointer (some ⟨ρ i, o, none⟩))
  | sliceNil : Ren ρ n (.slice none 0 0) (.slice none 0 0)
  | slice (i o l c : Nat) (h : i < n) : Ren ρ n (.slice (some ⟨i, o, none⟩) l c) (.slice (some ⟨ρ i, o, none⟩) l c)
  | sliceSpot (i o k : Nat) (h : i < n) : Ren ρ n (.slice (some ⟨i, o, some k⟩) 0 0) (.slice (some ⟨ρ i, o, some k⟩) 0 0)
  | mapNil : Ren ρ n (.map none) (.map none)
  | nilFunc : Ren ρ n .nilFunc .nilFunc
  | nilIface : Ren ρ n .nilIface .nilIface
  | func (fn : Fn) (f c f' c' : Array Value) (h1 : f.size = f'.size) (h2 : ∀ i, i < f.size → Ren ρ n (f.getD i undef) (f'.getD i undef))
      (h3 : c.size = c'.size) (h4 : ∀ i, i < c.size → Ren ρ n (c.getD i undef) (c'.getD i undef)) : Ren ρ n (.func fn f c) (.func fn f' c')
  | agg (c c' : Array Value) (h1 : c.size = c'.size) (h2 : ∀ i, i < c.size → Ren ρ n (c.getD i undef) (c'.getD i undef)) : Ren ρ n (.agg c) (.agg c')
  | tuple (c c' : Array Value) (h1 : c.size = c'.size) (h2 : ∀ i, i < c.size → Ren ρ n (c.getD i undef) (c'.getD i undef)) : Ren ρ n (.tuple c) (.tuple c')
def renPl (ρ : Nat → Nat) (n : Nat) (R : Pl) : Pl := fun i => if i < n then R (ρ i) else none
theorem Ren.rel {ρ : Nat → Nat} {n : Nat} {R : Pl} {v v' : Value} (h : Ren ρ n v v') : ∀ x, Rel R v' x → Rel (renPl ρ n R) v x := by
  induction h with
  | bool b => intro x hx; cases hx; exact .bool b
  | int k q => intro x hx; cases hx; exact .int k q
  | float k q => intro x hx; cases hx; exact .float k q
  | complex k q r => intro x hx; cases hx; exact .complex k q r
  | string s => intro x hx; cases hx; exact .string s
  | ptrNil => intro x hx; cases hx; exact .ptrNil
  | ptr i o hi => intro x hx; cases hx with | ptr _ _ p hp => exact .ptr i o p (by simp [renPl, hi, hp])
  | sliceNil => intro x hx; cases hx; exact .sliceNil
  | slice i o l c hi => intro x hx; cases hx with | slice _ _ _ _ p hp hn => exact .slice i o l c p (by simp [renPl, hi, hp]) hn
  | sliceSpot i o k hi => intro x hx; cases hx with | sliceSpot _ _ _ p hp => exact .sliceSpot i o k p (by simp [renPl, hi, hp])
  | mapNil => intro x hx; cases hx; exact .mapNil
  | nilFunc => intro x hx; cases hx; exact .nilFunc
  | nilIface => intro x hx; cases hx; exact .nilIface
  | func fn f c f' c' h1 _ h3 _ i1 i2 =>
    intro x hx
    cases hx with
    | func _ _ _ f2 c2 k1 k2 k3 k4 => exact .func fn f c f2 c2 (h1.trans k1) (fun i hi => i1 i hi _ (k2 i (by omega))) (h3.trans k3) (fun i hi => i2 i hi _ (k4 i (by omega)))
  | agg c c' h1 _ i1 =>
    intro x hx
    cases hx with
    | agg _ c2 k1 k2 => exact .agg c c2 (h1.trans k1) (fun i hi => i1 i hi _ (k2 i (by omega)))
  | tuple c c' h1 _ i1 =>
    intro x hx
    cases hx with
    | tuple _ c2 k1 k2 => exact .tuple c c2 (h1.trans k1) (fun i hi => i1 i hi _ (k2 i (by omega)))
/-- What lies in a memory names only its blocks. -/
theorem Ren.of_rel {ρ : Nat → Nat} {n N : Nat} {R : Pl} {v x : Value} (h : Rel R v x) (hR : ∀ i, N ≤ i → R i = none) (hN : N ≤ n) (hρ : ∀ i, i < N → ρ i = i) : Ren ρ n v v := by
  have lt : ∀ i p, R i = some p → i < N := fun i p hp => by
    rcases Nat.lt_or_ge i N with h | h
    · exact h
    · rw [hR i h] at hp; cases hp
  induction h with
  | bool b => exact .bool b
  | int k q => exact .int k q
  | float k q => exact .float k q
  | complex k q r => exact .complex k q r
  | string s => exact .string s
  | ptrNil => exact .ptrNil
  | ptr i o p hp =>
    have hi := lt i p hp
    have := Ren.ptr (ρ := ρ) (n := n) i o (by omega)
    rwa [hρ i hi] at this
  | sliceNil => exact .sliceNil
  | slice i o l c p hp _ =>
    have hi := lt i p hp
    have := Ren.slice (ρ := ρ) (n := n) i o l c (by omega)
    rwa [hρ i hi] at this
  | sliceSpot i o k p hp =>
    have hi := lt i p hp
    have := Ren.sliceSpot (ρ := ρ) (n := n) i o k (by omega)
    rwa [hρ i hi] at this
  | mapNil => exact .mapNil
  | nilFunc => exact .nilFunc
  | nilIface => exact .nilIface
  | func fn f c f' c' h1 _ h3 _ i1 i2 => exact .func fn f c f c rfl i1 rfl i2
  | agg c c' h1 _ i1 => exact .agg c c rfl i1
  | tuple c c' h1 _ i1 => exact .tuple c c rfl i1
/-- From (t, m) one may go on as from (t1, m1); the blocks of m0 keep their names. -/
def Gc (m0 : AM) (t : Fm) (m : AM) (t1 : Fm) (m1 : AM) : Prop :=
  ∃ ρ : Nat → Nat, m0.length ≤ m1.length ∧ (∀ j, j < m0.length → ρ j = j) ∧
    (∀ (i j : Nat) (b c : Blk), m1[i]? = some (some b) → m1[j]? = some (some c) → ρ i = ρ j → i = j) ∧
    (∀ (j : Nat) (b : Blk), m1[j]? = some (some b) → (j < m0.length ∧ m[j]? = some (some b) ∧ m0[j]? = some (some b)) ∨
      ∃ b', m[ρ j]? = some (some b') ∧ b.kind = b'.kind ∧ b.size = b'.size ∧ b.cells.length = b'.cells.length ∧ ∀ (k : Nat) (v : Value), b.cells[k]? = some v → ∃ v', b'.cells[k]? = some v' ∧ Ren ρ m1.length v v') ∧
    (∀ i v, t1 i = some v → ∃ v', t i = some v' ∧ Ren ρ m1.length v v')
section
variable {P : Program} {base n nt : Nat} {R R0 : Pl} {m m0 m1 : AM} {w w0 : World} {t t1 : Fm} {u : Array Value} {Q Q' : AEx → Fm → AM → Prop}
theorem Gc.ok (h : Gc m0 t m t1 m1) (h0 : MRep base R0 m0 w0) (hp : Post base m0 m R0 R w0 w) (ht : FR R nt t u) : ∃ R1, Post base m0 m1 R0 R1 w0 w ∧ FR R1 nt t1 u := by
  obtain ⟨ρ, hl, hid, hinj, hm, hf⟩ := h
  have lt0 : ∀ i p, R0 i = some p → i < m0.length := fun i p hp => by
    rcases Nat.lt_or_ge i m0.length with h | h
    · exact h
    · rw [h0.none_ i h] at hp; cases hp
  have hm' : ∀ (j : Nat) (b : Blk), m1[j]? = some (some b) → ∃ b', m[ρ j]? = some (some b') ∧ b.kind = b'.kind ∧ b.size = b'.size ∧ b.cells.length = b'.cells.length ∧ ∀ (k : Nat) (v : Value), b.cells[k]? = some v → ∃ v', b'.cells[k]? = some v' ∧ Ren ρ m1.length v v' := by
    intro j b hj
    rcases hm j b hj with ⟨h1, h2, h3⟩ | h
    · refine ⟨b, by rw [hid j h1]; exact h2, rfl, rfl, rfl, fun k v hk => ⟨v, hk, ?_⟩⟩
      obtain ⟨p, k1, k2⟩ := h0.rep j b h3
      obtain ⟨x, _, hx⟩ := k2.cell hk
      exact Ren.of_rel hx h0.none_ hl hid
    · exact h
  have hrep := hp.rep
  refine ⟨renPl ρ m1.length R, ⟨fun i p hi => ?_, ⟨fun i hi => ?_, fun j b hj => ?_, fun i j b c p q hi hj hb hc hne hpi hqj => ?_⟩, hp.os, hp.tape, hp.output, hp.size, hp.keep, fun k ho => ?_⟩, ⟨ht.size, fun i v hi => ?_⟩⟩
  · have hi' := lt0 i p hi
    simp only [renPl, show i < m1.length by omega, if_true, hid i hi']
    exact hp.le i p hi
  · simp only [renPl, show ¬ i < m1.length by omega, if_false]
  · obtain ⟨b', h1, h2, h3, h3', h4⟩ := hm' j b hj
    obtain ⟨p, k1, k2⟩ := hrep.rep (ρ j) b' h1
    have hlt : j < m1.length := (List.getElem?_eq_some_iff.1 hj).1
    refine ⟨p, by simp only [renPl, hlt, if_true]; exact k1, ?_⟩
    unfold BRep at k2 ⊢
    obtain ⟨q0, k2⟩ := k2
    refine ⟨q0, ?_⟩
    rw [← h2] at k2
    cases hk : b.kind with
    | ro =>
      rw [hk] at k2
      refine ⟨fun e => k2.1 (by rw [← h3]; exact e), fun k v hv => ?_⟩
      obtain ⟨v', r1, r2⟩ := h4 k v hv
      obtain ⟨x, r3, r4⟩ := k2.2 k v' r1
      exact ⟨x, r3, r2.rel x r4⟩
    | edge =>
      rw [hk] at k2
      refine ⟨?_, k2.2⟩
      have := h3'
      rw [k2.1] at this
      exact List.eq_nil_of_length_eq_zero this
    | own =>
      rw [hk] at k2
      obtain ⟨cur, ty, r1, r2, r3, r4, r5⟩ := k2
      refine ⟨cur, ty, r1, r2, by rw [h3', h3]; exact r3, r4, fun k v hv => ?_⟩
      obtain ⟨v', s1, s2⟩ := h4 k v hv
      obtain ⟨x, s3, s4, s5⟩ := r5 k v' s1
      exact ⟨x, s3, s2.rel x s4, s5⟩
    | grow =>
      rw [hk] at k2
      obtain ⟨cur, ty, r1, r2, r3, r4, r5⟩ := k2
      refine ⟨cur, ty, r1, r2, by rw [h3', h3]; exact r3, r4, fun k v hv => ?_⟩
      obtain ⟨v', s1, s2⟩ := h4 k v hv
      obtain ⟨x, s3, s4, s5⟩ := r5 k v' s1
      exact ⟨x, s3, s2.rel x s4, s5⟩
  · obtain ⟨b', h1, h2, _⟩ := hm' i b hi
    obtain ⟨c', k1, k2, _⟩ := hm' j c hj
    have hi' : i < m1.length := (List.getElem?_eq_some_iff.1 hi).1
    have hj' : j < m1.length := (List.getElem?_eq_some_iff.1 hj).1
    simp only [renPl, hi', hj', if_true] at hpi hqj
    exact hrep.apart (ρ i) (ρ j) b' c' p q h1 k1 (by rw [← h2]; exact hb) (by rw [← k2]; exact hc) (fun e => hne (hinj i j b c hi hj e)) hpi hqj
  · obtain ⟨i, b, p, h1, h2, h3, h4⟩ := ho
    obtain ⟨b', k1, k2, _⟩ := hm' i b h1
    have hi' : i < m1.length := (List.getElem?_eq_some_iff.1 h1).1
    simp only [renPl, hi', if_true] at h3
    exact hp.sub k ⟨ρ i, b', p, k1, by rw [← k2]; exact h2, h3, h4⟩
  · obtain ⟨v', h1, h2⟩ := hf i v hi
    exact h2.rel _ (ht.rel i v' h1)
def AW (P : Program) (nt : Nat) (m0 : AM) (c : Code) (t : Fm) (m : AM) (Q : AEx → Fm → AM → Prop) : Prop :=
  ∀ (base : Nat) (R0 : Pl) (w0 : World) (R : Pl) (a : Act) (w : World), base ≤ w0.heap.size → MRep base R0 m0 w0 → Post base m0 m R0 R w0 w → FR R nt t a.tmps →
    c.wp P (fun ex a' w' => ∃ e t' m' R', ex = AEx.to e ∧ a'.defers = a.defers ∧ Post base m0 m' R0 R' w0 w' ∧ FR R' nt t' a'.tmps ∧ Q e t' m') a w
theorem AW.mono {c : Code} (h : AW P nt m0 c t m Q) (hq : ∀ e t m, Q e t m → Q' e t m) : AW P nt m0 c t m Q' :=
  fun base R0 w0 R a w hb h0 hp ht => wp_mono (h base R0 w0 R a w hb h0 hp ht) fun _ _ _ ⟨e, t', m', R', h1, h2, h3, h4, h5⟩ => ⟨e, t', m', R', h1, h2, h3, h4, hq _ _ _ h5⟩
theorem AW.gc {c : Code} (hg : Gc m0 t m t1 m1) (h : AW P nt m0 c t1 m1 Q) : AW P nt m0 c t m Q := by
  intro base R0 w0 R a w hb h0 hp ht
  obtain ⟨R1, k1, k2⟩ := hg.ok h0 hp ht
  exact h base R0 w0 R1 a w hb h0 k1 k2
theorem AW.skip (h : Q .normal t m) : AW P nt m0 .skip t m Q := fun _ _ _ R _ _ _ _ hp ht => wp_skip ⟨.normal, t, m, R, rfl, rfl, hp, ht, h⟩
theorem AW.ret (h : Q .ret t m) : AW P nt m0 .ret t m Q := fun _ _ _ R _ _ _ _ hp ht => wp_ret ⟨.ret, t, m, R, rfl, rfl, hp, ht, h⟩
theorem AW.exit {id : Nat} (h : Q (.exit id) t m) : AW P nt m0 (.exit id) t m Q := fun _ _ _ R _ _ _ _ hp ht => wp_exit ⟨.exit id, t, m, R, rfl, rfl, hp, ht, h⟩
def Then (K : Fm → AM → Prop) (Q : AEx → Fm → AM → Prop) : AEx → Fm → AM → Prop
  | .normal, t, m => K t m
  | .exit i, t, m => Q (.exit i) t m
  | .ret, t, m => Q .ret t m
theorem AW.seq {a b : Code} (h : AW P nt m0 a t m (Then (fun t m => AW P nt m0 b t m Q) Q)) : AW P nt m0 (.seq a b) t m Q := by
  intro base R0 w0 R ac w hb h0 hp ht
  refine wp_seq (wp_mono (h base R0 w0 R ac w hb h0 hp ht) ?_)
  rintro ex a' w' ⟨e, t', m', R', rfl, h2, h3, h4, h5⟩
  cases e with
  | normal =>
    refine wp_mono (h5 base R0 w0 R' a' w' hb h0 h3 h4) ?_
    rintro ex a2 w2 ⟨e, t2, m2, R2, k1, k2, k3, k4, k5⟩
    exact ⟨e, t2, m2, R2, k1, k2.trans h2, k3, k4, k5⟩
  | exit i => exact ⟨.exit i, t', m', R', rfl, h2, h3, h4, h5⟩
  | ret => exact ⟨.ret, t', m', R', rfl, h2, h3, h4, h5⟩
/-- Cut: what holds between. -/
theorem AW.cut {a b : Code} (Mid : Fm → AM → Prop) (h : AW P nt m0 a t m (Then Mid Q)) (h2 : ∀ t m, Mid t m → AW P nt m0 b t m Q) : AW P nt m0 (.seq a b) t m Q :=
  .seq (h.mono fun e t m => by cases e <;> first | exact h2 t m | exact id)
theorem AW.cond {c : Operand} {a b : Code} {q : Bool} (hc : evo t c = some (.bool q)) (h1 : q = true → AW P nt m0 a t m Q) (h2 : q = false → AW P nt m0 b t m Q) : AW P nt m0 (.cond c a b) t m Q := by
  intro base R0 w0 R ac w hb h0 hp ht
  have hr := evo_rel ht hc
  have he : ac.eval c = .bool q := by generalize ac.eval c = y at hr; cases hr; rfl
  exact wp_cond_split he (fun e => h1 e base R0 w0 R ac w hb h0 hp ht) (fun e => h2 e base R0 w0 R ac w hb h0 hp ht)
def InBlk (id : Nat) (Q : AEx → Fm → AM → Prop) : AEx → Fm → AM → Prop
  | .exit i, t, m => if i = id then Q .normal t m else Q (.exit i) t m
  | .normal, t, m => Q .normal t m
  | .ret, t, m => Q .ret t m
theorem AW.block {id : Nat} {c : Code} (h : AW P nt m0 c t m (InBlk id Q)) : AW P nt m0 (.block id c) t m Q := by
  intro base R0 w0 R ac w hb h0 hp ht
  refine wp_block (wp_mono (h base R0 w0 R ac w hb h0 hp ht) ?_)
  rintro ex a' w' ⟨e, t', m', R', rfl, h2, h3, h4, h5⟩
  cases e with
  | normal => exact ⟨.normal, t', m', R', rfl, h2, h3, h4, h5⟩
  | ret => exact ⟨.ret, t', m', R', rfl, h2, h3, h4, h5⟩
  | exit i =>
    simp only [AEx.to, Exit.inBlock]
    simp only [InBlk] at h5
    split
    · rename_i hi
      rw [if_pos hi] at h5
      exact ⟨.normal, t', m', R', rfl, h2, h3, h4, h5⟩
    · rename_i hi
      rw [if_neg hi] at h5
      exact ⟨.exit i, t', m', R', rfl, h2, h3, h4, h5⟩
theorem least (p : Nat → Prop) : (∃ n, p n) → ∃ n, p n ∧ ∀ k, k < n → ¬ p k := by
  intro ⟨n, hn⟩
  induction n using Nat.strongRecOn with
  | _ n ih =>
    by_cases h : ∃ k, k < n ∧ p k
    · obtain ⟨k, h1, h2⟩ := h
      exact ih k h1 h2
    · exact ⟨n, hn, fun k hk hp => h ⟨k, hk, hp⟩⟩
theorem AW.loop {c : Code} (I : Nat → Fm → AM → Prop) (h0 : ∃ k t1 m1, Gc m0 t m t1 m1 ∧ I k t1 m1)
    (round : ∀ k t m, I k t m → AW P nt m0 c t m (Then (fun t' m' => ∃ k' t1 m1, k' < k ∧ Gc m0 t' m' t1 m1 ∧ I k' t1 m1) Q)) : AW P nt m0 (.loop c) t m Q := by
  intro base R0 w0 R ac w hb hm0 hp ht
  let J : Nat → Act → World → Prop := fun k a w => ∃ t m R, I k t m ∧ Post base m0 m R0 R w0 w ∧ FR R nt t a.tmps ∧ a.defers = ac.defers
  have hJ0 : ∃ k, J k ac w := by
    obtain ⟨k, t1, m1, hg, hI⟩ := h0
    obtain ⟨R1, k1, k2⟩ := hg.ok hm0 hp ht
    exact ⟨k, t1, m1, R1, hI, k1, k2, rfl⟩
  open Classical in
  let μ : Act → World → Nat := fun a w => if h : ∃ k, J k a w then Classical.choose (least _ h) else 0
  have hμ : ∀ a w (h : ∃ k, J k a w), J (μ a w) a w ∧ ∀ k, J k a w → μ a w ≤ k := fun a w h => by
    have hs := Classical.choose_spec (least _ h)
    have e : μ a w = Classical.choose (least _ h) := dif_pos h
    rw [e]
    exact ⟨hs.1, fun k hk => Nat.le_of_not_lt fun hlt => hs.2 k hlt hk⟩
  refine wp_loop (fun a w => ∃ k, J k a w) μ hJ0 fun a w hJ => ?_
  obtain ⟨⟨t2, m2, R2, q1, q2, q3, q4⟩, _⟩ := hμ a w hJ
  refine wp_mono (round _ _ _ q1 base R0 w0 R2 a w hb hm0 q2 q3) ?_
  rintro ex a' w' ⟨e, t', m', R', rfl, h2, h3, h4, h5⟩
  cases e with
  | normal =>
    obtain ⟨k', t1, m1, r1, r2, r3⟩ := h5
    obtain ⟨R1, s1, s2⟩ := r2.ok hm0 h3 h4
    have hJ' : J k' a' w' := ⟨t1, m1, R1, r3, s1, s2, h2.trans q4⟩
    exact ⟨⟨k', hJ'⟩, Nat.lt_of_le_of_lt ((hμ a' w' ⟨k', hJ'⟩).2 k' hJ') r1⟩
  | exit i => exact ⟨.exit i, t', m', R', rfl, h2.trans q4, h3, h4, h5⟩
  | ret => exact ⟨.ret, t', m', R', rfl, h2.trans q4, h3, h4, h5⟩
theorem AW.reg {id : Nat} {ops : Array Oper} {l : List Nat} (hl : List.range ops.size = l) (h : AWi P nt ops l t m (fun t m => Q .normal t m)) : AW P nt m0 (.region id ops false) t m Q := by
  intro base R0 w0 R ac w hb h0 hp ht
  refine wp_region ?_
  rw [hl]
  refine AWi.ok l t m R w ac h (Nat.le_trans hb hp.size) hp.rep ht ?_
  intro R' t' m' a' w' k1 k2 k3 k4
  exact ⟨.normal, t', m', R', rfl, k1, hp.trans k3, k2, k4⟩
theorem AW.all (hP : Fit P) {id : Nat} {ops : Array Oper} (h : AWd P nt ops (fun t m => Q .normal t m) ops.size (Array.replicate ops.size false) t m) : AW P nt m0 (.region id ops true) t m Q := by
  intro base R0 w0 R ac w hb h0 hp ht
  refine wp_region_any hP.mixed ?_
  have hd := Post.drew hp.rep
  refine AWd.ok ops.size _ t m R _ ac h (by have := hp.size; simpa using Nat.le_trans hb this) hd.rep ht ?_
  intro R' t' m' a' w' k1 k2 k3 k4
  exact ⟨.normal, t', m', R', rfl, k1, (hp.trans hd).trans k3, k2, k4⟩
theorem AW.draw (hP : Fit P) {id : Nat} {ops : Array Oper} {l : List Nat} (hl : plan P ops ops.size (Array.replicate ops.size false) = some l) (h : AWi P nt ops l t m (fun t m => Q .normal t m)) : AW P nt m0 (.region id ops true) t m Q :=
  .all hP (plan_ok _ _ _ _ _ (by simp) hl h)
def ACall (P : Program) (f : FuncId) (args : Array Value) (m : AM) (Q : Value → AM → Prop) : Prop :=
  ∀ (base : Nat) (R : Pl) (w : World) (args' : Array Value), base ≤ w.heap.size → MRep base R m w → Rels R args args' →
    Calls P f args' w fun e w' => ∃ v v' R' m', e = .returned v' ∧ Rel R' v v' ∧ Post base m m' R R' w w' ∧ Q v m'
theorem ACall.mono {f : FuncId} {args : Array Value} {Q Q' : Value → AM → Prop} (h : ACall P f args m Q) (hq : ∀ v m', Q v m' → Q' v m') : ACall P f args m Q' :=
  fun base R w args' hb hm ha => (h base R w args' hb hm ha).mono fun _ _ ⟨v, v', R', m', h1, h2, h3, h4⟩ => ⟨v, v', R', m', h1, h2, h3, hq _ _ h4⟩
def ares1 (P : Program) (t : Fm) (m : AM) : ResultVar → Option Value
  | .tmp i => t i
  | .cell a ty => match t a with
    | some p => aload P m ty p
    | none => none
def aresL (P : Program) (t : Fm) (m : AM) : List ResultVar → Option (List Value)
  | [] => some []
  | r :: rest => match ares1 P t m r, aresL P t m rest with
    | some v, some l => some (v :: l)
    | _, _ => none
def ares (P : Program) (fn : Func) (t : Fm) (m : AM) : Option Value :=
  match aresL P t m fn.results.toList with
  | some [v] => some v
  | some l => some (.tuple l.toArray)
  | none => none
theorem aresL_ok {n : Nat} (h : MRep base R m w) (ht : FR R n t u) : ∀ (l : List ResultVar) (vs : List Value), aresL P t m l = some vs →
    ∃ vs', RelL R vs vs' ∧ (l.mapM (res1 u)).run P w = .ok vs' w
  | [], vs, he => by simp [aresL] at he; subst he; exact ⟨[], .nil, by simp⟩
  | r :: rest, vs, he => by
    simp only [aresL] at he
    split at he
    · rename_i v l h1 h2
      injection he with he; subst he
      obtain ⟨l', k1, k2⟩ := aresL_ok h ht rest l h2
      have : ∃ v', Rel R v v' ∧ (res1 u r).run P w = .ok v' w := by
        cases r with
        | tmp i => exact ⟨_, ht.rel i v h1, rfl⟩
        | cell a ty =>
          simp only [ares1] at h1
          split at h1
          · rename_i p hpa
            have hg := ht.rel a p hpa
            obtain ⟨v', q1, q2⟩ := aload_ok (w := w) h.held hg h1
            refine ⟨v', q2, ?_⟩
            unfold aload at h1
            split at h1
            · have hres : res1 u (.cell a ty) = (do loadVar ty (← asAddr (u.getD a undef))) := rfl
              rw [hres]
              generalize u.getD a undef = q at hg q1 ⊢
              cases hg
              simpa [Instr.loadAt, Instr.sureAddr, asAddr] using q1
            · cases h1
          · cases h1
      obtain ⟨v', q1, q2⟩ := this
      refine ⟨v' :: l', .cons q1 k1, ?_⟩
      simp only [List.mapM_cons]
      simp only [Sem.run_bind, q2, k2, Result.andThen_ok]
      rfl
    · cases he
theorem ares_ok {fn : Func} {n : Nat} {v : Value} (h : MRep base R m w) (ht : FR R n t u) (he : ares P fn t m = some v) : ∃ v', Rel R v v' ∧ (results fn u).run P w = .ok v' w := by
  unfold ares at he
  have key : ∀ l, aresL P t m fn.results.toList = some l → ∃ l', RelL R l l' ∧ (results fn u).run P w = .ok (if h : l'.toArray.size = 1 then l'.toArray[0] else .tuple l'.toArray) w := fun l hl => by
    obtain ⟨l', k1, k2⟩ := aresL_ok (P := P) h ht _ _ hl
    refine ⟨l', k1, ?_⟩
    rw [results_eq]
    simp only [map_eq_pure_bind, Sem.run_bind, k2, Result.andThen_ok]
    rfl
  split at he
  · rename_i x hl
    injection he with he; subst he
    obtain ⟨l', k1, k2⟩ := key _ hl
    refine ⟨_, ?_, k2⟩
    match l', k1 with
    | [y], k1 =>
      obtain ⟨v', e1, e2⟩ := k1.2 0 x rfl
      simp at e1; subst e1
      simpa using e2
    | [], k1 => have := k1.1; simp at this
    | _ :: _ :: _, k1 => have := k1.1; simp at this
  · rename_i l hne hl
    injection he with he; subst he
    obtain ⟨l', k1, k2⟩ := key _ hl
    refine ⟨_, ?_, k2⟩
    match l, l', k1 with
    | [], [], _ => exact .tuple _ _ rfl (fun i hi => absurd hi (by simp))
    | [x], _, _ => exact (hne x rfl).elim
    | x :: y :: r, x' :: y' :: r', k1 =>
      have := k1.rels
      simpa using Rel.tuple _ _ this.1 this.2
    | [], _ :: _, k1 => have := k1.1; simp at this
    | _ :: _ :: _, [], k1 => have := k1.1; simp at this
    | _ :: _ :: _, [_], k1 => have := k1.1; simp at this
  · cases he
def argF (args : Array Value) : Fm := fun i => args.toList[i]?
/-- What the end of a body owes. -/
def Ends (P : Program) (fn : Func) (Q : Value → AM → Prop) : AEx → Fm → AM → Prop
  | .exit _, _, _ => False
  | _, t, m => ∃ v, ares P fn t m = some v ∧ Q v m
theorem ACall.intro {f : FuncId} {fn : Func} {c : Code} {args : Array Value} {Q : Value → AM → Prop} (hf : P.funcs[f]? = some fn) (hb : fn.body = some c) (hsz : args.size ≤ fn.ntmps)
    (h : AW P fn.ntmps m c (argF args) m (Ends P fn Q)) : ACall P f args m Q := by
  intro base R w args' hbase hm hargs
  refine calls_of_wp hf hb ?_
  have hs := hargs.1
  refine wp_mono (h base R w R ⟨args' ++ Array.replicate (fn.ntmps - args'.size) undef, []⟩ w hbase hm (.refl hm) ⟨by simp; omega, fun i v hi => ?_⟩) ?_
  · have hi : args[i]? = some v := by simpa [argF] using hi
    have hlt : i < args.size := (Array.getElem?_eq_some_iff.1 hi).1
    have := hargs.2 i hlt
    have e1 : args.getD i undef = v := by
      simp [hi]
    rw [e1] at this
    have e2 : (args' ++ Array.replicate (fn.ntmps - args'.size) undef).getD i undef = args'.getD i undef := by
      simp [Array.getElem?_append_left (show i < args'.size by omega)]
    show Rel R v ((args' ++ Array.replicate (fn.ntmps - args'.size) undef).getD i undef)
    rw [e2]; exact this
  · rintro ex a' w' ⟨e, t', m', R', rfl, h2, h3, h4, h5⟩
    cases e with
    | exit i => exact h5.elim
    | normal =>
      obtain ⟨v, k1, k2⟩ := h5
      obtain ⟨v', r1, r2⟩ := ares_ok (P := P) h3.rep h4 k1
      exact ⟨h2, v', r2, v, v', R', m', rfl, r1, h3, k2⟩
    | ret =>
      obtain ⟨v, k1, k2⟩ := h5
      obtain ⟨v', r1, r2⟩ := ares_ok (P := P) h3.rep h4 k1
      exact ⟨h2, v', r2, v, v', R', m', rfl, r1, h3, k2⟩
/-- A call of a function of the program, as an operation. -/
theorem loud_call (hP : Fit P) {o : Oper} {c : Call} {x : Operand} {ev : Operand → Value} {g : FuncId} {first captured : Array Value} {K : Value → AM → Prop} (ho : o.op = .call c) (hc : c.callee = .value x) (hx : ev x = .func (.func g) first captured)
    {fn : Func} {b : Code} (hf : P.funcs[g]? = some fn) (hb : fn.body = some b) (h : ACall P g (first ++ c.args.map ev ++ captured) m K) : Loud P o ev m K := by
  intro base R w a Q next hbase hm hev hn
  obtain ⟨dst, op, type, pos, after, guard⟩ := o
  simp only at ho; subst ho
  obtain ⟨callee, cargs, ctypes⟩ := c
  simp only at hc; subst hc
  have hxr := hev x (by simp [Op.operands, Call.operands])
  rw [hx] at hxr
  generalize hq : a.eval x = q at hxr
  cases hxr with
  | func _ _ _ f' c' k1 k2 k3 k4 =>
    have hargs := rels_map (R := R) (ev := ev) (ev' := a.eval) cargs (fun y hy => hev y (by simp [Op.operands, Call.operands, hy]))
    have hrun : (execOp a.eval { dst := dst, op := .call { callee := .value x, args := cargs, argTypes := ctypes }, type := type, pos := pos, after := after, guard := guard : Oper }).run P w = .ok (.enter g (f' ++ cargs.map a.eval ++ c')) w := by
      simp [execOp, resolve, hq, Deferred.ofValue, invoke, run_enter hf (hP.names _ _ hf) hb]
    unfold Oper.wp
    rw [hrun]
    refine (h base R w _ hbase hm (rels_app (rels_app ⟨k1, k2⟩ hargs) ⟨k3, k4⟩)).mono ?_
    rintro e w' ⟨v, v', R', m', rfl, q1, q2, q3⟩
    exact hn R' v v' m' w' q1 q2 q3
/-- A call that takes no memory, by its contract in the real world. -/
theorem ACall.of_calls {f : FuncId} {args : Array Value} {v : Value} (hg : args.all g1 = true) (hv : g1 v = true) (h : ∀ w, Calls P f args w fun e w' => e = .returned v ∧ Below w.heap.size w w') :
    ACall P f args m (fun v' m' => v' = v ∧ m' = m) := by
  intro base R w args' hb hm hargs
  have he : args' = args := ext_getD hargs.1.symm fun i hi => g1_eq (all_getD hg (by rw [hargs.1]; exact hi)) (hargs.2 i (by rw [hargs.1]; exact hi))
  subst he
  refine (h w).mono ?_
  rintro e w' ⟨rfl, hb'⟩
  exact ⟨v, v, R, m, rfl, g1_rel hv, ⟨.refl R, hm.kept hb'.block, hb'.os, hb'.tape, hb'.output, hb'.size, fun k hk _ => hb'.block k hk, fun _ h => .inr h⟩, rfl, rfl⟩
end
end Go.Proofs.Ytmomjannlnafcaa.Abs
namespace Go.Proofs.Ytmomjannlnafcaa.Abs
set_option linter.unusedSimpArgs false
set_option linter.unusedVariables false
open Go.RowKit
open Go.Proofs.Ytmomjannlnafcaa.Sim
def evD (t : Fm) : Operand → Value := fun x => (evo t x).getD undef
theorem evD_of {t : Fm} {x : Operand} {v : Value} (h : evo t x = some v) : evD t x = v := by simp [evD, h]
theorem kn_of {t : Fm} {o : Oper} (h : ∀ x ∈ o.op.operands.toList, ∃ v, evo t x = some v) : Kn t o (evD t) := fun x hx => by
  obtain ⟨v, hv⟩ := h x (by simpa using hx)
  rw [hv, evD_of hv]
/-- A cell that is known. -/
def Rd (m : AM) (i o : Nat) (v : Value) : Prop := ∃ b, m[i]? = some (some b) ∧ b.cells[o]? = some v
/-- A slice of n elements whose first cell is o of block a; it may be nil if it is empty. -/
def Sl (v : Value) (a o n : Nat) : Prop := (v = .slice none 0 0 ∧ n = 0) ∨ (∃ c, n ≤ c ∧ v = .slice (some ⟨a, o, none⟩) n c) ∨ (n = 0 ∧ ∃ o' k, v = .slice (some ⟨a, o', some k⟩) 0 0)
def slB (P : Program) (T : TypeId) : Bool := match P.underlying T with
  | some (.slice _) => true
  | _ => false
def elB (P : Program) (T : TypeId) : Option Nat := match P.underlying T with
  | some (.slice e) => szB P e
  | _ => none
def foB (P : Program) (T : TypeId) (f : Nat) : Option Nat := match P.underlying T with
  | some (.struct fs) => match fs[f]? with
    | some fd => match szB P fd.type with
      | some (_ + 1) => some fd.offset
      | _ => none
    | none => none
  | _ => none
section
variable {P : Program} {nt : Nat} {ops : Array Oper} {t : Fm} {m : AM} {K : Fm → AM → Prop} {d T : Nat} {p : String} {af : Array Edge}
theorem Step.q {o : Oper} {v : Value} (hd : o.dst = some d) (hg : o.guard = none) (hlt : Nat.blt d nt = true) (hk : ∀ x ∈ o.op.operands.toList, ∃ v, evo t x = some v) (hq : aquiet P o (evD t) m = some v) (hK : K (put t d v) m) : Step P nt ops o t m K := by
  refine ⟨fun e he => ?_, ?_⟩
  · rw [hd] at he; injection he with he; subst he; simpa using hlt
  · rw [hg]
    exact ⟨evD t, kn_of hk, .inl ⟨v, hq, by rw [hd]; exact hK⟩⟩
theorem Step.l {o : Oper} (hd : o.dst = some d) (hg : o.guard = none) (hlt : Nat.blt d nt = true) (hs : stillB P o.op = false) (hk : ∀ x ∈ o.op.operands.toList, ∃ v, evo t x = some v) (hl : Loud P o (evD t) m fun v m' => K (put t d v) m') : Step P nt ops o t m K := by
  refine ⟨fun e he => ?_, ?_⟩
  · rw [hd] at he; injection he with he; subst he; simpa using hlt
  · rw [hg]
    exact ⟨evD t, kn_of hk, .inr ⟨hs, by rw [hd]; exact hl⟩⟩
theorem Step.l0 {o : Oper} (hd : o.dst = none) (hg : o.guard = none) (hs : stillB P o.op = false) (hk : ∀ x ∈ o.op.operands.toList, ∃ v, evo t x = some v) (hl : Loud P o (evD t) m fun _ m' => K t m') : Step P nt ops o t m K := by
  refine ⟨fun e he => (by rw [hd] at he; cases he), ?_⟩
  rw [hg]
  exact ⟨evD t, kn_of hk, .inr ⟨hs, by rw [hd]; exact hl⟩⟩
theorem Step.gd {o : Op} {dd : Option Tmp} {j : Nat} {b q : Bool} (hd : ∀ d, dd = some d → d < nt) (hv : gval ops t j = some (.bool q)) (h1 : q = b → Step P nt ops ⟨dd, o, T, p, af, none⟩ t m K) (h2 : q = !b → K (putO t dd undef) m) : Step P nt ops ⟨dd, o, T, p, af, some (j, b)⟩ t m K := by
  refine ⟨hd, .bool q, hv, ?_⟩
  by_cases h : q = b
  · subst h
    rw [if_pos (by simp [wantB])]
    have := (h1 rfl).2
    exact this
  · rw [if_neg (by simp [wantB, h])]
    exact h2 (by cases q <;> cases b <;> simp_all)
theorem Step.gu {o : Op} {dd : Option Tmp} {j : Nat} {b : Bool} (hd : ∀ d, dd = some d → d < nt) (hv : gval ops t j = some undef) (h2 : K (putO t dd undef) m) : Step P nt ops ⟨dd, o, T, p, af, some (j, b)⟩ t m K := by
  refine ⟨hd, undef, hv, ?_⟩
  rw [if_neg (by simp [wantB, undef])]
  exact h2
theorem Step.move {x : Operand} {v : Value} (hx : evo t x = some v) (hlt : Nat.blt d nt = true) (hK : K (put t d v) m) : Step P nt ops ⟨some d, .move x, T, p, af, none⟩ t m K :=
  .q rfl rfl hlt (by simp [Op.operands, hx]) (by simp [aquiet, evD_of hx]) hK
theorem Step.assign {x : Operand} {v : Value} (hx : evo t x = some v) (hlt : Nat.blt d nt = true) (hK : K (put t d v) m) : Step P nt ops ⟨some d, .assign x, T, p, af, none⟩ t m K :=
  .q rfl rfl hlt (by simp [Op.operands, hx]) (by simp [aquiet, evD_of hx]) hK
theorem Step.pick {c x y : Operand} {q : Bool} {v u : Value} (hc : evo t c = some (.bool q)) (hx : evo t x = some v) (hy : evo t y = some u) (hlt : Nat.blt d nt = true) (h1 : q = true → K (put t d v) m) (h2 : q = false → K (put t d u) m) : Step P nt ops ⟨some d, .pick c x y, T, p, af, none⟩ t m K := by
  refine .q rfl rfl hlt (by simp [Op.operands, hc, hx, hy]) (v := if q then v else u) (by simp [aquiet, evD_of hc, evD_of hx, evD_of hy]) ?_
  cases q
  · exact h2 rfl
  · exact h1 rfl
theorem Step.load {x : Operand} {ty i o : Nat} {v : Value} (hx : evo t x = some (.pointer (some ⟨i, o, none⟩))) (hg : aggB P ty = some false) (hlt : Nat.blt d nt = true) (hr : Rd m i o v) (hK : K (put t d v) m) : Step P nt ops ⟨some d, .load ty x, T, p, af, none⟩ t m K := by
  obtain ⟨b, h1, h2⟩ := hr
  exact .q rfl rfl hlt (by simp [Op.operands, hx]) (by simp [aquiet, evD_of hx, aload, hg, h1, h2]) hK
/-- A whole struct or array. -/
theorem Step.loads {x : Operand} {ty i o n : Nat} {b : Blk} {c : List Value} (hx : evo t x = some (.pointer (some ⟨i, o, none⟩))) (hg : aggB P ty = some true) (hn : szB P ty = some n) (hlt : Nat.blt d nt = true) (h1 : m[i]? = some (some b)) (h2 : (b.cells.drop o).take n = c) (h3 : c.length = n) (hn1 : 1 ≤ n) (hK : K (put t d (.agg c.toArray)) m) :
    Step P nt ops ⟨some d, .load ty x, T, p, af, none⟩ t m K := by
  have h0 : o + n ≤ b.cells.length := by
    rw [← h2] at h3
    simp at h3
    omega
  exact .q rfl rfl hlt (by simp [Op.operands, hx]) (by simp [aquiet, evD_of hx, aload, hg, hn, h1, h0, h2]) hK
theorem Step.field {x : Operand} {s f i o k : Nat} (hx : evo t x = some (.pointer (some ⟨i, o, none⟩))) (hf : foB P s f = some k) (hlt : Nat.blt d nt = true) (hK : K (put t d (.pointer (some ⟨i, o + k, none⟩))) m) : Step P nt ops ⟨some d, .fieldAddr s x f, T, p, af, none⟩ t m K := by
  refine .q rfl rfl hlt (by simp [Op.operands, hx]) ?_ hK
  unfold foB at hf
  simp only [aquiet, evD_of hx, afield]
  split at hf
  · rename_i fs hu
    rw [hu]
    simp only
    split at hf
    · rename_i fd hfd
      rw [hfd]
      simp only
      split at hf
      · rename_i q hq
        rw [hq]
        injection hf with hf
        simp [hf]
      · cases hf
    · cases hf
  · cases hf
/-- The first field: it lies where the struct lies. -/
theorem Step.field0 {x : Operand} {s f i o : Nat} (hx : evo t x = some (.pointer (some ⟨i, o, none⟩))) (hf : foB P s f = some 0) (hlt : Nat.blt d nt = true) (hK : K (put t d (.pointer (some ⟨i, o, none⟩))) m) : Step P nt ops ⟨some d, .fieldAddr s x f, T, p, af, none⟩ t m K :=
  .field hx hf hlt hK
theorem Step.ix {x y : Operand} {s a o n k X : Nat} {kk : IntKind} {v : Value} (hx : evo t x = some v) (hs : Sl v a o n) (hy : evo t y = some (.int kk ((k : Nat) : Int))) (he : elB P X = some s) (hlt : Nat.blt d nt = true) (hk : k < n) (hK : K (put t d (.pointer (some ⟨a, o + k * s, none⟩))) m) : Step P nt ops ⟨some d, .indexAddr X x y, T, p, af, none⟩ t m K := by
  refine .q rfl rfl hlt (by simp [Op.operands, hx, hy]) ?_ hK
  rcases hs with ⟨_, hn⟩ | ⟨c, hc, rfl⟩ | ⟨hn, _⟩
  · omega
  · unfold elB at he
    split at he
    · rename_i e hu
      simp only [aquiet, evD_of hx, evD_of hy, aindex, hu, he]
      rw [if_pos (by omega)]
      simp
    · cases he
  · omega
theorem Step.ix1 {x y : Operand} {a o n k X : Nat} {kk : IntKind} {v : Value} (hx : evo t x = some v) (hs : Sl v a o n) (hy : evo t y = some (.int kk ((k : Nat) : Int))) (he : elB P X = some 1) (hlt : Nat.blt d nt = true) (hk : k < n) (hK : K (put t d (.pointer (some ⟨a, o + k, none⟩))) m) : Step P nt ops ⟨some d, .indexAddr X x y, T, p, af, none⟩ t m K :=
  .ix hx hs hy he hlt hk (by simpa using hK)
theorem Step.extract {x : Operand} {vs : Array Value} {i : Nat} {v : Value} (hx : evo t x = some (.tuple vs)) (hi : vs.toList[i]? = some v) (hlt : Nat.blt d nt = true) (hK : K (put t d v) m) : Step P nt ops ⟨some d, .extract x i, T, p, af, none⟩ t m K := by
  have hi' : vs[i]? = some v := by simpa using hi
  exact .q rfl rfl hlt (by simp [Op.operands, hx]) (by simp [aquiet, evD_of hx, hi']) hK
def evL (t : Fm) : List Operand → Option (List Value)
  | [] => some []
  | x :: l => match evo t x, evL t l with
    | some v, some k => some (v :: k)
    | _, _ => none
theorem evL_of {t : Fm} : ∀ {l : List Operand} {vs : List Value}, evL t l = some vs → (∀ x ∈ l, ∃ v, evo t x = some v) ∧ l.map (evD t) = vs
  | [], vs, h => by simp [evL] at h; subst h; simp
  | x :: l, vs, h => by
    simp only [evL] at h
    split at h
    · rename_i v k h1 h2
      injection h with h; subst h
      obtain ⟨k1, k2⟩ := evL_of h2
      exact ⟨fun y hy => by
        rcases List.mem_cons.1 hy with rfl | hy
        · exact ⟨v, h1⟩
        · exact k1 y hy, by simp [evD_of h1, k2]⟩
    · cases h
theorem Step.fn {fn : Fn} {f c : Array Operand} {vf vc : List Value} (hf : evL t f.toList = some vf) (hc : evL t c.toList = some vc) (hlt : Nat.blt d nt = true) (hK : K (put t d (.func fn vf.toArray vc.toArray)) m) : Step P nt ops ⟨some d, .makeFunc fn f c, T, p, af, none⟩ t m K := by
  obtain ⟨f1, f2⟩ := evL_of hf
  obtain ⟨c1, c2⟩ := evL_of hc
  refine .q rfl rfl hlt (fun x hx => ?_) ?_ hK
  · simp only [Op.operands, Array.toList_append, List.mem_append] at hx
    exact hx.elim (f1 x) (c1 x)
  · simp only [aquiet, Option.some.injEq, Value.func.injEq, true_and]
    refine ⟨?_, ?_⟩
    · rw [← f2]; apply Array.ext'; simp
    · rw [← c2]; apply Array.ext'; simp
theorem Step.bin {op : BinOp} {X Y : TypeId} {x y : Operand} {u w v : Value} (hx : evo t x = some u) (hy : evo t y = some w) (hv : aint op u w = some v) (hlt : Nat.blt d nt = true) (hK : K (put t d v) m) : Step P nt ops ⟨some d, .binOp op X x y Y, T, p, af, none⟩ t m K :=
  .q rfl rfl hlt (by simp [Op.operands, hx, hy]) (by simp [aquiet, evD_of hx, evD_of hy, hv]) hK
section ints
variable {X Y : TypeId} {x y : Operand} {a b : Int} {k : IntKind}
theorem Step.add (hx : evo t x = some (.int .i64 a)) (hy : evo t y = some (.int .i64 b)) (hr : -9223372036854775808 ≤ a + b ∧ a + b ≤ 9223372036854775807) (hlt : Nat.blt d nt = true) (hK : K (put t d (.int .i64 (a + b))) m) : Step P nt ops ⟨some d, .binOp .add X x y Y, T, p, af, none⟩ t m K :=
  .bin hx hy (by simp [aint, IntWalk.i64_in _ hr]) hlt hK
theorem Step.sub (hx : evo t x = some (.int .i64 a)) (hy : evo t y = some (.int .i64 b)) (hr : -9223372036854775808 ≤ a - b ∧ a - b ≤ 9223372036854775807) (hlt : Nat.blt d nt = true) (hK : K (put t d (.int .i64 (a - b))) m) : Step P nt ops ⟨some d, .binOp .sub X x y Y, T, p, af, none⟩ t m K :=
  .bin hx hy (by simp [aint, IntWalk.i64_in _ hr]) hlt hK
theorem Step.mul (hx : evo t x = some (.int .i64 a)) (hy : evo t y = some (.int .i64 b)) (hr : -9223372036854775808 ≤ a * b ∧ a * b ≤ 9223372036854775807) (hlt : Nat.blt d nt = true) (hK : K (put t d (.int .i64 (a * b))) m) : Step P nt ops ⟨some d, .binOp .mul X x y Y, T, p, af, none⟩ t m K :=
  .bin hx hy (by simp [aint, IntWalk.i64_in _ hr]) hlt hK
theorem Step.lss (hx : evo t x = some (.int k a)) (hy : evo t y = some (.int k b)) (hlt : Nat.blt d nt = true) (hK : K (put t d (.bool (decide (a < b)))) m) : Step P nt ops ⟨some d, .binOp .lss X x y Y, T, p, af, none⟩ t m K :=
  .bin hx hy (by simp [aint]) hlt hK
theorem Step.leq (hx : evo t x = some (.int k a)) (hy : evo t y = some (.int k b)) (hlt : Nat.blt d nt = true) (hK : K (put t d (.bool (decide (a ≤ b)))) m) : Step P nt ops ⟨some d, .binOp .leq X x y Y, T, p, af, none⟩ t m K :=
  .bin hx hy (by simp [aint]) hlt hK
theorem Step.gtr (hx : evo t x = some (.int k a)) (hy : evo t y = some (.int k b)) (hlt : Nat.blt d nt = true) (hK : K (put t d (.bool (decide (b < a)))) m) : Step P nt ops ⟨some d, .binOp .gtr X x y Y, T, p, af, none⟩ t m K :=
  .bin hx hy (by simp [aint]) hlt hK
theorem Step.geq (hx : evo t x = some (.int k a)) (hy : evo t y = some (.int k b)) (hlt : Nat.blt d nt = true) (hK : K (put t d (.bool (decide (b ≤ a)))) m) : Step P nt ops ⟨some d, .binOp .geq X x y Y, T, p, af, none⟩ t m K :=
  .bin hx hy (by simp [aint]) hlt hK
theorem Step.eql (hx : evo t x = some (.int k a)) (hy : evo t y = some (.int k b)) (hlt : Nat.blt d nt = true) (hK : K (put t d (.bool (decide (a = b)))) m) : Step P nt ops ⟨some d, .binOp .eql X x y Y, T, p, af, none⟩ t m K :=
  .bin hx hy (by simp [aint]) hlt hK
theorem Step.neq (hx : evo t x = some (.int k a)) (hy : evo t y = some (.int k b)) (hlt : Nat.blt d nt = true) (hK : K (put t d (.bool (!decide (a = b)))) m) : Step P nt ops ⟨some d, .binOp .neq X x y Y, T, p, af, none⟩ t m K :=
  .bin hx hy (by simp [aint]) hlt hK
/-- An operation on numbers, bools and the like, by the model's own reckoning. -/
theorem Step.ground {o : Oper} {v : Value} (hd : o.dst = some d) (hg : o.guard = none) (hlt : Nat.blt d nt = true) (hk : ∀ x ∈ o.op.operands.toList, ∃ v, evo t x = some v ∧ g1 v = true) (hq : aground P o (evD t) = some v → aquiet P o (evD t) m = some v)
    (hst : Sim.still P (execOp (evD t) o) = some (.value v)) (hv : g1 v = true) (hK : K (put t d v) m) : Step P nt ops o t m K := by
  refine .q hd hg hlt (fun x hx => by obtain ⟨u, h, _⟩ := hk x hx; exact ⟨u, h⟩) (hq ?_) hK
  unfold aground
  rw [if_pos ?_]
  · simp [hst, hv]
  · rw [Array.all_eq_true_iff_forall_mem]
    intro x hx
    obtain ⟨u, h, h'⟩ := hk x (by simpa using hx)
    simpa [evD_of h] using h'
end ints
theorem Step.not {x : Operand} {X : TypeId} {q : Bool} (hx : evo t x = some (.bool q)) (hlt : Nat.blt d nt = true) (hK : K (put t d (.bool !q)) m) : Step P nt ops ⟨some d, .unOp .not X x, T, p, af, none⟩ t m K :=
  .ground rfl rfl hlt (by simp [Op.operands, hx, g1, g0]) (fun h => by simpa [aquiet] using h) (by simp [execOp, Op.unary, evD_of hx, bind, Sem.bind, pure, Sim.still]) (by simp [g1, g0]) hK
theorem Step.len {x : Operand} {X a o n : Nat} {v : Value} (hx : evo t x = some v) (hs : Sl v a o n) (hX : slB P X = true) (hlt : Nat.blt d nt = true) (hK : K (put t d (.int .i64 ((n : Nat) : Int))) m) :
    Step P nt ops ⟨some d, .call ⟨.builtin .len, #[x], #[X]⟩, T, p, af, none⟩ t m K := by
  refine .q rfl rfl hlt (by simp [Op.operands, Call.operands, hx]) ?_ hK
  unfold slB at hX
  split at hX
  · rename_i e hu
    rcases hs with ⟨rfl, rfl⟩ | ⟨c, hc, rfl⟩ | ⟨rfl, o', k', rfl⟩ <;> simp [aquiet, evD_of hx, alen, hu, aSliceLen]
  · cases hX
theorem Step.max {x y : Operand} {X Y : TypeId} {a b : Int} {k : IntKind} (hx : evo t x = some (.int k a)) (hy : evo t y = some (.int k b)) (hlt : Nat.blt d nt = true) (hK : K (put t d (.int k (max a b))) m) :
    Step P nt ops ⟨some d, .call ⟨.builtin .max, #[x, y], #[X, Y]⟩, T, p, af, none⟩ t m K := by
  refine .ground rfl rfl hlt (by simp [Op.operands, Call.operands, hx, hy, g1, g0]) (fun h => by simpa [aquiet] using h) ?_ (by simp [g1, g0]) hK
  have : (if b > a then b else a) = Max.max a b := by rw [Int.max_def]; split <;> split <;> omega
  simp [execOp, resolve, invoke, builtin, Builtin.max_, Builtin.max2, evD_of hx, evD_of hy, this, bind, Sem.bind, pure, Sim.still]
theorem Step.min {x y : Operand} {X Y : TypeId} {a b : Int} {k : IntKind} (hx : evo t x = some (.int k a)) (hy : evo t y = some (.int k b)) (hlt : Nat.blt d nt = true) (hK : K (put t d (.int k (min a b))) m) :
    Step P nt ops ⟨some d, .call ⟨.builtin .min, #[x, y], #[X, Y]⟩, T, p, af, none⟩ t m K := by
  refine .ground rfl rfl hlt (by simp [Op.operands, Call.operands, hx, hy, g1, g0]) (fun h => by simpa [aquiet] using h) ?_ (by simp [g1, g0]) hK
  have : (if b < a then b else a) = Min.min a b := by rw [Int.min_def]; split <;> split <;> omega
  simp [execOp, resolve, invoke, builtin, Builtin.min_, Builtin.min2, evD_of hx, evD_of hy, this, bind, Sem.bind, pure, Sim.still]
end
end Go.Proofs.Ytmomjannlnafcaa.Abs
namespace Go.Proofs.Ytmomjannlnafcaa.Abs
set_option linter.unusedSimpArgs false
set_option linter.unusedVariables false
open Go.RowKit
open Go.Proofs.Ytmomjannlnafcaa.Sim
theorem set_app {α : Type} (M L : List α) (k : Nat) (x : α) : (M ++ L).set (M.length + k) x = M ++ L.set k x := by
  rw [List.set_append_right _ _ (by omega)]; congr 1; rw [Nat.add_sub_cancel_left]
theorem get_app {α : Type} (M L : List α) (k : Nat) : (M ++ L)[M.length + k]? = L[k]? := by
  rw [List.getElem?_append_right (by omega)]; congr 1; omega
theorem get_old {α : Type} {M : List α} (L : List α) {a : Nat} {x : α} (h : M[a]? = some x) : (M ++ L)[a]? = some x := by
  rw [List.getElem?_append_left (List.getElem?_eq_some_iff.1 h).1]; exact h
theorem Rd.old {M : AM} (L : AM) {a o : Nat} {v : Value} (h : Rd M a o v) : Rd (M ++ L) a o v := by
  obtain ⟨b, h1, h2⟩ := h
  exact ⟨b, get_old L h1, h2⟩
theorem Rd.new {M L : AM} {k o : Nat} {b : Blk} {v : Value} (h : L[k]? = some (some b)) (hv : b.cells[o]? = some v) : Rd (M ++ L) (M.length + k) o v :=
  ⟨b, by rw [get_app]; exact h, hv⟩
section
variable {P : Program} {nt : Nat} {ops : Array Oper} {t : Fm} {m : AM} {K : Fm → AM → Prop} {d T : Nat} {p : String} {af : Array Edge}
theorem loudN {o : Oper} {ev : Operand → Value} {K : Value → AM → Prop} {v : Value} {M L L' : AM} {k : Nat} (hk : L.length = k) (hn : needsNew o.op = true) (h : aloud P o ev ((M ++ L) ++ [none]) (M.length + k) = some (v, M ++ L')) (hK : K v (M ++ L')) : Loud P o ev (M ++ L) K :=
  loud_of_aloud hn (by rw [List.length_append, hk]; exact h) hK
theorem set_new_at {α : Type} (M L : List α) {k : Nat} (hk : L.length = k) (x y : α) : ((M ++ L) ++ [y]).set (M.length + k) x = M ++ (L ++ [x]) := by
  rw [List.append_assoc, set_app, List.set_append_right _ _ (by omega)]
  simp [hk]
/-- A new variable. -/
theorem Step.alloc {ty : TypeId} {z : Array Value} {M L L' : AM} (k : Nat) (hk : L.length = k) (hz : zeroB P ty = some z) (hlt : Nat.blt d nt = true) (hL : L ++ [some { cells := z.toList }] = L') (hK : K (put t d (.pointer (some ⟨M.length + k, 0, none⟩))) (M ++ L')) :
    Step P nt ops ⟨some d, .alloc ty, T, p, af, none⟩ t (M ++ L) K := by
  subst hL
  refine .l rfl rfl hlt rfl (by simp [Op.operands]) (loudN hk rfl (v := .pointer (some ⟨M.length + k, 0, none⟩)) ?_ hK)
  simp [aloud, hz, set_new_at M L hk, -List.append_assoc]
/-- A new variable with a value. -/
theorem Step.box {x : Operand} {ty : TypeId} {v : Value} {M L L' : AM} (k : Nat) (hk : L.length = k) (hx : evo t x = some v) (h1 : v.cells.all (·.oneCell') = true) (hlt : Nat.blt d nt = true) (hL : L ++ [some { cells := v.cells.toList }] = L') (hK : K (put t d (.pointer (some ⟨M.length + k, 0, none⟩))) (M ++ L')) :
    Step P nt ops ⟨some d, .box ty x, T, p, af, none⟩ t (M ++ L) K := by
  subst hL
  refine .l rfl rfl hlt rfl (by simp [Op.operands, hx]) (loudN hk rfl (v := .pointer (some ⟨M.length + k, 0, none⟩)) ?_ hK)
  simp only [aloud, evD_of hx]
  rw [if_pos h1, set_new_at M L hk]
theorem Step.make {x y : Operand} {X : TypeId} {n : Nat} {kx ky : IntKind} {e : TypeId} {s by_ : Nat} {z : Array Value} {M L L' : AM} (k : Nat) (hk : L.length = k) (hx : evo t x = some (.int kx ((n : Nat) : Int))) (hy : evo t y = some (.int ky ((n : Nat) : Int))) (he : elemB P X = some (e, s, by_, z)) (hb : by_ * n ≤ 281474976710656 ∧ n ≤ 9223372036854775807 ∧ s ≠ 0)
    (hlt : Nat.blt d nt = true) (hL : L ++ [some { cells := (madeCells z (n * s)).toList }] = L') (hK : K (put t d (.slice (some ⟨M.length + k, 0, none⟩) n n)) (M ++ L')) :
    Step P nt ops ⟨some d, .makeSlice X x y, T, p, af, none⟩ t (M ++ L) K := by
  subst hL
  refine .l rfl rfl hlt rfl (by simp [Op.operands, hx, hy]) (loudN hk rfl (v := .slice (some ⟨M.length + k, 0, none⟩) n n) ?_ hK)
  obtain ⟨b1, b2, b3⟩ := hb
  simp only [aloud, evD_of hx, evD_of hy, amake, he]
  rw [if_pos ⟨by omega, by omega, by omega, by omega, b3⟩, set_new_at M L hk]
  simp
theorem madeCells_one (v : Value) (n : Nat) : (madeCells #[v] (n * 1)).toList = List.replicate n v := by
  apply List.ext_getElem?
  intro i
  simp only [madeCells, Array.toList_map, Nat.mul_one, List.getElem?_map, List.getElem?_replicate, Array.getElem?_toList]
  by_cases h : i < n
  · simp [h, Nat.mod_one]
  · simp [h]
/-- make of a slice of one-cell elements. -/
theorem Step.make1 {x y : Operand} {X : TypeId} {n : Nat} {kx ky : IntKind} {e : TypeId} {by_ : Nat} {z : Value} {M L L' : AM} (k : Nat) (hk : L.length = k) (hx : evo t x = some (.int kx ((n : Nat) : Int))) (hy : evo t y = some (.int ky ((n : Nat) : Int))) (he : elemB P X = some (e, 1, by_, #[z])) (hb : by_ * n ≤ 281474976710656 ∧ n ≤ 9223372036854775807)
    (hlt : Nat.blt d nt = true) (hL : L ++ [some { cells := List.replicate n z }] = L') (hK : K (put t d (.slice (some ⟨M.length + k, 0, none⟩) n n)) (M ++ L')) :
    Step P nt ops ⟨some d, .makeSlice X x y, T, p, af, none⟩ t (M ++ L) K :=
  .make k hk hx hy he ⟨hb.1, hb.2, by omega⟩ hlt (by rw [madeCells_one]; exact hL) hK
/-- A store into a block of one's own: one cell. -/
theorem Step.store {x y : Operand} {ty : TypeId} {k o : Nat} {v : Value} {b : Blk} {M L L' : AM} (hx : evo t x = some (.pointer (some ⟨M.length + k, o, none⟩))) (hy : evo t y = some v) (hb : L[k]? = some (some b)) (hs : b.kind.solid = true) (hz : szB P ty = some 1) (hc : v.cells = #[v]) (h1 : v.oneCell' = true) (ho : o < b.cells.length)
    (hL : L.set k (some { b with cells := b.cells.set o v }) = L') (hK : K t (M ++ L')) : Step P nt ops ⟨none, .store ty x y, T, p, af, none⟩ t (M ++ L) K := by
  subst hL
  refine .l0 rfl rfl rfl (by simp [Op.operands, hx, hy]) (loud_of_aloud0 (v := undef) (m' := M ++ L.set k (some { b with cells := b.cells.set o v })) rfl ?_ hK)
  have hsp : splice b.cells o [v] = b.cells.set o v := by
    unfold splice
    rw [List.set_eq_take_append_cons_drop]
    simp [ho]
  simp only [aloud, evD_of hx, evD_of hy, astore, get_app, hb, hz, hc]
  rw [if_pos (by simp [hs, h1]; omega)]
  simp [set_app, hsp]
/-- A store of a struct's cells. -/
theorem Step.stores {x y : Operand} {ty : TypeId} {k o n : Nat} {v : Value} {b : Blk} {M L L' : AM} (hx : evo t x = some (.pointer (some ⟨M.length + k, o, none⟩))) (hy : evo t y = some v) (hb : L[k]? = some (some b)) (hs : b.kind.solid = true) (hz : szB P ty = some n) (hc : v.cells.size = n) (h1 : v.cells.all (·.oneCell') = true) (ho : o + n ≤ b.cells.length)
    (hL : L.set k (some { b with cells := splice b.cells o v.cells.toList }) = L') (hK : K t (M ++ L')) : Step P nt ops ⟨none, .store ty x y, T, p, af, none⟩ t (M ++ L) K := by
  subst hL
  refine .l0 rfl rfl rfl (by simp [Op.operands, hx, hy]) (loud_of_aloud0 (v := undef) (m' := M ++ L.set k (some { b with cells := splice b.cells o v.cells.toList })) rfl ?_ hK)
  simp only [aloud, evD_of hx, evD_of hy, astore, get_app, hb, hz]
  rw [if_pos (by rw [h1]; simp [hs, hc]; omega)]
  simp [set_app]
/-- A call of a function of the program. -/
theorem Step.call {x : Operand} {args : Array Operand} {tys : Array TypeId} {g : FuncId} {f c : Array Value} {vs : List Value} {fn : Func} {b : Code} {m : AM} {Q : Value → AM → Prop} (hP : Fit P) (hx : evo t x = some (.func (.func g) f c)) (ha : evL t args.toList = some vs) (hf : P.funcs[g]? = some fn) (hb : fn.body = some b)
    (hlt : Nat.blt d nt = true) (h : ACall P g (f ++ vs.toArray ++ c) m Q) (hK : ∀ v m', Q v m' → K (put t d v) m') : Step P nt ops ⟨some d, .call ⟨.value x, args, tys⟩, T, p, af, none⟩ t m K := by
  obtain ⟨a1, a2⟩ := evL_of ha
  refine .l rfl rfl hlt rfl (fun y hy => ?_) (loud_call hP (g := g) (first := f) (captured := c) rfl rfl (evD_of hx) hf hb ?_)
  · simp only [Op.operands, Call.operands, Array.toList_append, List.mem_append] at hy
    rcases hy with hy | hy
    · simp at hy; subst hy; exact ⟨_, hx⟩
    · exact a1 y hy
  · have e : (args.map (evD t)) = vs.toArray := by rw [← a2]; apply Array.ext'; simp
    rw [e]
    exact h.mono hK
/-- A call of a function that is known by its name. -/
theorem Step.callF {args : Array Operand} {tys : Array TypeId} {g : FuncId} {vs : List Value} {fn : Func} {b : Code} {m : AM} {Q : Value → AM → Prop} (hP : Fit P) (ha : evL t args.toList = some vs) (hf : P.funcs[g]? = some fn) (hb : fn.body = some b)
    (hlt : Nat.blt d nt = true) (h : ACall P g vs.toArray m Q) (hK : ∀ v m', Q v m' → K (put t d v) m') : Step P nt ops ⟨some d, .call ⟨.value (.func g), args, tys⟩, T, p, af, none⟩ t m K :=
  .call hP rfl ha hf hb hlt (by simpa using h) hK
end
end Go.Proofs.Ytmomjannlnafcaa.Abs
namespace Go.Proofs.Ytmomjannlnafcaa.Abs
set_option linter.unusedSimpArgs false
set_option linter.unusedVariables false
open Go.RowKit
open Go.Proofs.Ytmomjannlnafcaa.Sim
section
variable {P : Program} {nt id : Nat} {m m0 : AM} {t : Fm} {Q : AEx → Fm → AM → Prop} {K : Fm → AM → Prop}
theorem Then.n (h : K t m) : Then K Q .normal t m := h
theorem Then.e {i : Nat} (h : Q (.exit i) t m) : Then K Q (.exit i) t m := h
theorem Then.r (h : Q .ret t m) : Then K Q .ret t m := h
theorem InBlk.n (h : Q .normal t m) : InBlk id Q .normal t m := h
theorem InBlk.r (h : Q .ret t m) : InBlk id Q .ret t m := h
theorem InBlk.hit (h : Q .normal t m) : InBlk id Q (.exit id) t m := by simp only [InBlk, if_true]; exact h
theorem InBlk.miss {i : Nat} (hne : Nat.beq i id = false) (h : Q (.exit i) t m) : InBlk id Q (.exit i) t m := by
  have : i ≠ id := fun e => by rw [e] at hne; simp at hne
  simp only [InBlk, if_neg this]; exact h
theorem AW.condT {c : Operand} {a b : Code} {q : Bool} (hc : evo t c = some (.bool q)) (hq : q = true) (h : AW P nt m0 a t m Q) : AW P nt m0 (.cond c a b) t m Q := .cond hc (fun _ => h) (fun e => by rw [hq] at e; cases e)
theorem AW.condF {c : Operand} {a b : Code} {q : Bool} (hc : evo t c = some (.bool q)) (hq : q = false) (h : AW P nt m0 b t m Q) : AW P nt m0 (.cond c a b) t m Q := .cond hc (fun e => by rw [hq] at e; cases e) (fun _ => h)
def All (p : Nat → Value → Prop) : List (Nat × Value) → Prop
  | [] => True
  | (d, v) :: l => p d v ∧ All p l
theorem fr_all {p : Nat → Value → Prop} : ∀ {l : List (Nat × Value)}, All p l → ∀ i v, fr l i = some v → p i v
  | [], _, i, v, h => by simp [fr] at h
  | (d, x) :: l, ⟨h1, h2⟩, i, v, h => by
    by_cases e : i = d
    · subst e
      simp only [fr, put_same, Option.some.injEq] at h
      subst h; exact h1
    · simp only [fr, put_ne _ _ e] at h
      exact fr_all h2 i v h
theorem AW.weak {c : Code} {t1 : Fm} (hs : ∀ i v, t1 i = some v → t i = some v) (h : AW P nt m0 c t1 m Q) : AW P nt m0 c t m Q :=
  fun base R0 w0 R a w hb h0 hp ht => h base R0 w0 R a w hb h0 hp (ht.weak hs)
/-- A loop, the memory's names kept. -/
theorem AW.loopW {c : Code} (I : Nat → Fm → AM → Prop) (h0 : ∃ k l, All (fun i v => t i = some v) l ∧ I k (fr l) m)
    (round : ∀ k t m, I k t m → AW P nt m0 c t m (Then (fun t' m' => ∃ k' l, k' < k ∧ All (fun i v => t' i = some v) l ∧ I k' (fr l) m') Q)) : AW P nt m0 (.loop c) t m Q := by
  obtain ⟨k, l, h1, h2⟩ := h0
  refine .weak (fr_all h1) ?_
  intro base R0 w0 R ac w hb hm0 hp ht
  let J : Nat → Act → World → Prop := fun k a w => ∃ t m R, I k t m ∧ Post base m0 m R0 R w0 w ∧ FR R nt t a.tmps ∧ a.defers = ac.defers
  have hJ0 : ∃ k, J k ac w := ⟨k, fr l, m, R, h2, hp, ht, rfl⟩
  open Classical in
  let μ : Act → World → Nat := fun a w => if h : ∃ k, J k a w then Classical.choose (least _ h) else 0
  have hμ : ∀ a w (h : ∃ k, J k a w), J (μ a w) a w ∧ ∀ k, J k a w → μ a w ≤ k := fun a w h => by
    have hs := Classical.choose_spec (least _ h)
    have e : μ a w = Classical.choose (least _ h) := dif_pos h
    rw [e]
    exact ⟨hs.1, fun k hk => Nat.le_of_not_lt fun hlt => hs.2 k hlt hk⟩
  refine wp_loop (fun a w => ∃ k, J k a w) μ hJ0 fun a w hJ => ?_
  obtain ⟨⟨t2, m2, R2, q1, q2, q3, q4⟩, _⟩ := hμ a w hJ
  refine wp_mono (round _ _ _ q1 base R0 w0 R2 a w hb hm0 q2 q3) ?_
  rintro ex a' w' ⟨e, t', m', R', rfl, h2, h3, h4, h5⟩
  cases e with
  | normal =>
    obtain ⟨k', l', r1, r2, r3⟩ := h5
    have hJ' : J k' a' w' := ⟨fr l', m', R', r3, h3, h4.weak (fr_all r2), h2.trans q4⟩
    exact ⟨⟨k', hJ'⟩, Nat.lt_of_le_of_lt ((hμ a' w' ⟨k', hJ'⟩).2 k' hJ') r1⟩
  | exit i => exact ⟨.exit i, t', m', R', rfl, h2.trans q4, h3, h4, h5⟩
  | ret => exact ⟨.ret, t', m', R', rfl, h2.trans q4, h3, h4, h5⟩
def rid : Nat → Nat := fun i => i
theorem Ren.of_sl {N : Nat} {v : Value} {a o n : Nat} (h : Sl v a o n) (ha : a < N) : Ren rid N v v := by
  rcases h with ⟨rfl, _⟩ | ⟨c, _, rfl⟩ | ⟨_, o', k, rfl⟩
  · exact .sliceNil
  · exact .slice a o n c ha
  · exact .sliceSpot a o' k ha
theorem Ren.of_g0 {N : Nat} {ρ : Nat → Nat} {v : Value} (h : g0 v = true) : Ren ρ N v v := .of_rel (N := 0) (R := fun _ => none) (x := v) (g0_rel h) (fun _ _ => rfl) (Nat.zero_le _) (fun i hi => absurd hi (by omega))
/-- All that the call made is let go. -/
theorem Gc.drop {M L : AM} {l : List (Nat × Value)} (h : All (fun i v => t i = some v ∧ Ren rid M.length v v) l) : Gc M t (M ++ L) (fr l) M :=
  ⟨rid, Nat.le_refl _, fun _ _ => rfl, fun _ _ _ _ _ _ e => e, fun j b hj => .inl ⟨(List.getElem?_eq_some_iff.1 hj).1, get_old L hj, hj⟩, fun i v hi => by
    obtain ⟨h1, h2⟩ := fr_all h i v hi
    exact ⟨v, h1, h2⟩⟩
/-- Of the call's own blocks the first ones are kept. -/
theorem Gc.trim {M L L1 L2 : AM} {l : List (Nat × Value)} (hL : L = L1 ++ L2) (hc : ∀ b, some b ∈ L1 → ∀ v ∈ b.cells, Ren rid (M.length + L1.length) v v) (h : All (fun i v => t i = some v ∧ Ren rid (M.length + L1.length) v v) l) : Gc M t (M ++ L) (fr l) (M ++ L1) := by
  subst hL
  refine ⟨rid, by simp, fun _ _ => rfl, fun _ _ _ _ _ _ e => e, fun j b hj => ?_, fun i v hi => by
    obtain ⟨h1, h2⟩ := fr_all h i v hi
    exact ⟨v, h1, by simpa using h2⟩⟩
  rcases Nat.lt_or_ge j M.length with hlt | hge
  · rw [List.getElem?_append_left hlt] at hj
    exact .inl ⟨hlt, get_old _ hj, hj⟩
  · have hj' := hj
    rw [List.getElem?_append_right hge] at hj
    have hjl := (List.getElem?_eq_some_iff.1 hj).1
    refine .inr ⟨b, ?_, rfl, rfl, rfl, fun k v hk => ⟨v, hk, ?_⟩⟩
    · show (M ++ (L1 ++ L2))[j]? = _
      rw [List.getElem?_append_right hge, List.getElem?_append_left hjl]; exact hj
    · have := hc b (List.mem_of_getElem? hj) v (List.mem_of_getElem? hk)
      simpa using this
end
section
variable {P : Program} {nt : Nat} {ops : Array Oper} {t : Fm} {m : AM} {K : Fm → AM → Prop} {T : Nat} {p : String} {af : Array Edge}
theorem Step.id {o : Oper} (h : Step P nt ops o t m K) : Step P nt ops o t m K := h
def dOk (d : Option Tmp) (n : Nat) : Bool := match d with
  | some d => Nat.blt d n
  | none => true
theorem dOk_of {d : Option Tmp} (h : dOk d nt = true) : ∀ e, d = some e → e < nt := fun e he => by subst he; simpa [dOk] using h
theorem Step.gdT {o : Op} {dd : Option Tmp} {j : Nat} {b q : Bool} (hd : dOk dd nt = true) (hv : gval ops t j = some (.bool q)) (hq : q = b) (h1 : Step P nt ops ⟨dd, o, T, p, af, none⟩ t m K) : Step P nt ops ⟨dd, o, T, p, af, some (j, b)⟩ t m K :=
  .gd (dOk_of hd) hv (fun _ => h1) (fun h => by rw [hq] at h; cases b <;> cases h)
theorem Step.gdF {o : Op} {dd : Option Tmp} {j : Nat} {b q : Bool} (hd : dOk dd nt = true) (hv : gval ops t j = some (.bool q)) (hq : q = !b) (h1 : K (putO t dd undef) m) : Step P nt ops ⟨dd, o, T, p, af, some (j, b)⟩ t m K :=
  .gd (dOk_of hd) hv (fun h => by rw [hq] at h; cases b <;> cases h) (fun _ => h1)
theorem Step.gdU {o : Op} {dd : Option Tmp} {j : Nat} {b : Bool} (hd : dOk dd nt = true) (hv : gval ops t j = some undef) (h1 : K (putO t dd undef) m) : Step P nt ops ⟨dd, o, T, p, af, some (j, b)⟩ t m K :=
  .gu (dOk_of hd) hv h1
theorem Step.pickT {d : Nat} {c x y : Operand} {q : Bool} {v u : Value} (hc : evo t c = some (.bool q)) (hx : evo t x = some v) (hy : evo t y = some u) (hlt : Nat.blt d nt = true) (hq : q = true) (h1 : K (put t d v) m) : Step P nt ops ⟨some d, .pick c x y, T, p, af, none⟩ t m K :=
  .pick hc hx hy hlt (fun _ => h1) (fun h => by rw [hq] at h; cases h)
theorem Step.pickF {d : Nat} {c x y : Operand} {q : Bool} {v u : Value} (hc : evo t c = some (.bool q)) (hx : evo t x = some v) (hy : evo t y = some u) (hlt : Nat.blt d nt = true) (hq : q = false) (h1 : K (put t d u) m) : Step P nt ops ⟨some d, .pick c x y, T, p, af, none⟩ t m K :=
  .pick hc hx hy hlt (fun h => by rw [hq] at h; cases h) (fun _ => h1)
end
theorem Sl.mk {a o n c : Nat} (h : n ≤ c) : Sl (.slice (some ⟨a, o, none⟩) n c) a o n := .inr (.inl ⟨c, h, rfl⟩)
theorem Sl.nil (a o : Nat) : Sl (.slice none 0 0) a o 0 := .inl ⟨rfl, rfl⟩
/-- A slice of ints that reads as l. -/
def Ints (m : AM) (v : Value) (l : List Int) : Prop := ∃ a o, Sl v a o l.length ∧ a < m.length ∧ ∀ k, k < l.length → Rd m a (o + k) (.int .i64 (l.getD k 0))
def Nats (m : AM) (v : Value) (l : List Nat) : Prop := ∃ a o, Sl v a o l.length ∧ a < m.length ∧ ∀ k, k < l.length → Rd m a (o + k) (.int .i64 ((l.getD k 0 : Nat) : Int))
theorem Ints.old {m : AM} {v : Value} {l : List Int} (L : AM) (h : Ints m v l) : Ints (m ++ L) v l := by
  obtain ⟨a, o, h1, h2, h3⟩ := h
  exact ⟨a, o, h1, by simp; omega, fun k hk => (h3 k hk).old L⟩
theorem Nats.old {m : AM} {v : Value} {l : List Nat} (L : AM) (h : Nats m v l) : Nats (m ++ L) v l := by
  obtain ⟨a, o, h1, h2, h3⟩ := h
  exact ⟨a, o, h1, by simp; omega, fun k hk => (h3 k hk).old L⟩
end Go.Proofs.Ytmomjannlnafcaa.Abs
namespace Go.Proofs.Ytmomjannlnafcaa.Abs
set_option linter.unusedSimpArgs false
set_option linter.unusedVariables false
open Go.RowKit
open Go.Proofs.Ytmomjannlnafcaa.Sim
def RdL (m : AM) (i o : Nat) (c : List Value) : Prop := ∃ b, m[i]? = some (some b) ∧ ∀ (j : Nat) (v : Value), c[j]? = some v → b.cells[o + j]? = some v
theorem RdL.old {M : AM} (L : AM) {a o : Nat} {c : List Value} (h : RdL M a o c) : RdL (M ++ L) a o c := by
  obtain ⟨b, h1, h2⟩ := h
  exact ⟨b, get_old L h1, h2⟩
theorem RdL.at_ {m : AM} {a o : Nat} {c : List Value} (h : RdL m a o c) (j : Nat) {v : Value} (hj : c[j]? = some v) : Rd m a (o + j) v := by
  obtain ⟨b, h1, h2⟩ := h
  exact ⟨b, h1, h2 j v hj⟩
theorem RdL.new {M L : AM} {k : Nat} {b : Blk} {c : List Value} (h : L[k]? = some (some b)) (hb : b.cells = c) : RdL (M ++ L) (M.length + k) 0 c :=
  ⟨b, by rw [get_app]; exact h, fun j v hj => by rw [hb, Nat.zero_add]; exact hj⟩
theorem RdL.nil {m : AM} {i o : Nat} {b : Blk} (h : m[i]? = some (some b)) : RdL m i o [] := ⟨b, h, fun j v hj => by simp at hj⟩
theorem RdL.cons {m : AM} {i o : Nat} {v : Value} {c : List Value} (h : Rd m i o v) (hc : RdL m i (o + 1) c) : RdL m i o (v :: c) := by
  obtain ⟨b, h1, h2⟩ := h
  obtain ⟨b', k1, k2⟩ := hc
  rw [h1] at k1; injection k1 with k1; injection k1 with k1; subst k1
  refine ⟨b, h1, fun j x hj => ?_⟩
  cases j with
  | zero => simp at hj; subst hj; exact h2
  | succ j =>
    have := k2 j x (by simpa using hj)
    rwa [show o + (j + 1) = o + 1 + j by omega]
theorem RdL.one {m : AM} {i o : Nat} {v : Value} (h : Rd m i o v) : RdL m i o [v] := by
  obtain ⟨b, h1, h2⟩ := h
  exact ⟨b, h1, fun j x hj => by
    cases j with
    | zero => simp at hj; subst hj; exact h2
    | succ j => simp at hj⟩
section
variable {P : Program} {nt : Nat} {ops : Array Oper} {t : Fm} {m : AM} {K : Fm → AM → Prop} {d T : Nat} {p : String} {af : Array Edge}
/-- A whole struct is read. -/
theorem Step.loadL {x : Operand} {ty i o n : Nat} {c : List Value} (hx : evo t x = some (.pointer (some ⟨i, o, none⟩))) (hg : aggB P ty = some true) (hn : szB P ty = some n) (hlt : Nat.blt d nt = true) (h1 : RdL m i o c) (h3 : c.length = n) (hn1 : Nat.blt 0 n = true) (hK : K (put t d (.agg c.toArray)) m) :
    Step P nt ops ⟨some d, .load ty x, T, p, af, none⟩ t m K := by
  obtain ⟨b, k1, k2⟩ := h1
  simp at hn1
  have hlast := k2 (n - 1) c[n - 1] (List.getElem?_eq_getElem (by omega))
  have hlen := (List.getElem?_eq_some_iff.1 hlast).1
  refine .loads hx hg hn hlt k1 ?_ h3 hn1 hK
  apply List.ext_getElem?
  intro j
  by_cases hj : j < n
  · rw [List.getElem?_take, if_pos hj, List.getElem?_drop, k2 j c[j] (List.getElem?_eq_getElem (by omega)), List.getElem?_eq_getElem (by omega)]
  · rw [List.getElem?_take, if_neg hj, List.getElem?_eq_none (by omega)]
/-- A variable of one's own is set as a whole. -/
theorem Step.storeA {x y : Operand} {ty : TypeId} {k n : Nat} {v : Value} {b : Blk} {M L L' : AM} (hx : evo t x = some (.pointer (some ⟨M.length + k, 0, none⟩))) (hy : evo t y = some v) (hb : L[k]? = some (some b)) (hs : b.kind.solid = true) (hz : szB P ty = some n) (hc : v.cells.size = n) (h1 : v.cells.all (·.oneCell') = true) (ho : b.cells.length = n)
    (hL : L.set k (some { b with cells := v.cells.toList }) = L') (hK : K t (M ++ L')) : Step P nt ops ⟨none, .store ty x y, T, p, af, none⟩ t (M ++ L) K := by
  refine .stores hx hy hb hs hz hc h1 (by omega) ?_ hK
  rw [← hL]
  have : splice b.cells 0 v.cells.toList = v.cells.toList := by
    unfold splice
    rw [List.drop_eq_nil_of_le (by simp; omega)]
    simp
  rw [this]
theorem parts_eq {t : Fm} {parts : Array (Nat × Operand)} {ws : List Value} (hv : evL t (parts.toList.map (·.2)) = some ws) : (parts.map fun (i, x) => (i, evD t x)).toList = (parts.toList.map (·.1)).zip ws := by
  obtain ⟨_, h2⟩ := evL_of hv
  rw [← h2, Array.toList_map]
  generalize parts.toList = l
  induction l with
  | nil => rfl
  | cons x l ih => obtain ⟨i, y⟩ := x; simp [ih]
theorem Step.build {X : TypeId} {parts : Array (Nat × Operand)} {ws : List Value} {c : Array Value} (hv : evL t (parts.toList.map (·.2)) = some ws) (hb : abuild P X ((parts.toList.map (·.1)).zip ws) = some (.agg c)) (hlt : Nat.blt d nt = true) (hK : K (put t d (.agg c)) m) :
    Step P nt ops ⟨some d, .build X parts, T, p, af, none⟩ t m K := by
  obtain ⟨h1, _⟩ := evL_of hv
  refine .q rfl rfl hlt (fun x hx => h1 x (by simpa [Op.operands] using hx)) ?_ hK
  simp only [aquiet, parts_eq hv, hb]
theorem Step.buildS {X : TypeId} {len : Nat} {parts : Array (Nat × Operand)} {ws : List Value} {c : List Value} {M L L' : AM} (k : Nat) (hk : L.length = k) (hv : evL t (parts.toList.map (·.2)) = some ws)
    (hb : ∀ (m : AM) (n : Nat), abuildSlice P m n X len ((parts.toList.map (·.1)).zip ws) = some (.slice (some ⟨n, 0, none⟩) len len, m.set n (some { cells := c }))) (hlt : Nat.blt d nt = true) (hL : L ++ [some { cells := c }] = L') (hK : K (put t d (.slice (some ⟨M.length + k, 0, none⟩) len len)) (M ++ L')) :
    Step P nt ops ⟨some d, .buildSlice X len parts, T, p, af, none⟩ t (M ++ L) K := by
  subst hL
  obtain ⟨h1, _⟩ := evL_of hv
  refine .l rfl rfl hlt rfl (fun x hx => h1 x (by simpa [Op.operands] using hx)) (loudN hk rfl (v := .slice (some ⟨M.length + k, 0, none⟩) len len) ?_ hK)
  simp only [aloud, parts_eq hv, hb, set_new_at M L hk]
def gv (a n : Nat) : Value := if n = 0 then .slice none 0 0 else .slice (some ⟨a, 0, none⟩) n n
def gb (c : List Value) (s : Nat) : Option Blk := match c with
  | [] => none
  | x :: l => some { cells := x :: l, kind := .grow, size := s }
theorem gv_pos {a n : Nat} (h : 0 < n) : gv a n = .slice (some ⟨a, 0, none⟩) n n := if_neg (by omega)
theorem gb_pos {c : List Value} {s : Nat} (h : 0 < c.length) : gb c s = some { cells := c, kind := .grow, size := s } := by
  cases c with
  | nil => simp at h
  | cons x l => rfl
theorem gv_sl (a n : Nat) : Sl (gv a n) a 0 n := by
  unfold gv
  split
  · rename_i h; exact .inl ⟨rfl, h⟩
  · exact .inr (.inl ⟨n, Nat.le_refl _, rfl⟩)
theorem Step.appG {x y : Operand} {X Y e e' : TypeId} {s by_ : Nat} {z : Array Value} {k q r n xl : Nat} {c new : List Value} {M L L' : AM} (hk : L.length = k) (hx : evo t x = some (gv (M.length + q) n)) (hy : evo t y = some (.slice (some ⟨M.length + r, 0, none⟩) xl xl)) (hE : elemB P X = some (e, s, by_, z)) (hY : P.underlying Y = some (.slice e'))
    (hs : Nat.blt 0 s = true) (hxl : Nat.blt 0 xl = true) (hq : L[q]? = some (gb c s)) (hc : c.length = n * s) (hr : L[r]? = some (some { cells := new })) (hn : new.length = xl * s) (hn1 : new.all (·.oneCell') = true) (hb : (n + xl) * by_ ≤ 1099511627776 ∧ n + xl ≤ 1099511627776) (hlt : Nat.blt d nt = true)
    (hL : L.set q none ++ [some { cells := c ++ new, kind := .grow, size := s }] = L') (hK : K (put t d (.slice (some ⟨M.length + k, 0, none⟩) (n + xl) (n + xl))) (M ++ L')) :
    Step P nt ops ⟨some d, .call ⟨.builtin .append, #[x, y], #[X, Y]⟩, T, p, af, none⟩ t (M ++ L) K := by
  subst hL
  simp at hs hxl
  refine .l rfl rfl hlt rfl (by simp [Op.operands, Call.operands, hx, hy]) (loudN hk rfl (v := .slice (some ⟨M.length + k, 0, none⟩) (n + xl) (n + xl)) ?_ hK)
  have hrl : r < L.length := (List.getElem?_eq_some_iff.1 hr).1
  have hql : q < L.length := (List.getElem?_eq_some_iff.1 hq).1
  have hcell : acells ((M ++ L) ++ [none]) s xl (.slice (some ⟨M.length + r, 0, none⟩) xl xl) = some new := by
    have hg : ((M ++ L) ++ [none])[M.length + r]? = some (some { cells := new }) := by rw [List.append_assoc, get_app, List.getElem?_append_left hrl, hr]
    simp only [acells, hg]
    rw [if_neg (by omega), if_pos ⟨Nat.le_refl _, by simp [hn]⟩]
    simp [← hn]
  simp only [aloud, evD_of hx, evD_of hy, aappend, hE, hY, aSliceLen, hcell]
  rw [if_neg (by simp [hn1]; omega)]
  by_cases hn0 : n = 0
  · subst hn0
    have hc0 : c = [] := List.eq_nil_of_length_eq_zero (by omega)
    subst hc0
    have hset : L.set q none = L := by
      apply List.ext_getElem?
      intro j
      by_cases e : q = j
      · subst e; rw [List.getElem?_set_self hql, hq]; simp [gb]
      · rw [List.getElem?_set_ne e]
    simp only [gv, if_true]
    rw [if_neg (by omega), if_pos ⟨by simpa using hb.1, by simpa using hb.2⟩, set_new_at M L hk, hset]
    simp
  · have hc1 : 0 < c.length := by rw [hc]; exact Nat.mul_pos (by omega) hs
    rw [gb_pos hc1] at hq
    rw [gv_pos (by omega)]
    simp only
    have hg : ((M ++ L) ++ [none])[M.length + q]? = some (some { cells := c, kind := .grow, size := s }) := by rw [List.append_assoc, get_app, List.getElem?_append_left hql, hq]
    rw [if_neg (by omega)]
    simp only [hg]
    rw [if_neg (by omega), if_pos ⟨hb.1, hb.2, Nat.le_refl _⟩, if_pos ⟨by simp [hc], trivial⟩]
    simp only [List.drop_zero, Option.some.injEq, Prod.mk.injEq, true_and]
    have h1 : ((M ++ L) ++ [none]).set (M.length + q) none = (M ++ L.set q none) ++ [none] := by
      rw [List.append_assoc, set_app, List.set_append_left _ _ hql, List.append_assoc]
    rw [h1, List.take_of_length_le (by omega)]
    exact set_new_at M (L.set q none) (k := k) (by simpa using hk) _ none
/-- The call returns r; memory is as it was. -/
def Ret (r : Value) (m : AM) : Value → AM → Prop := fun v m' => r = v ∧ m = m'
/-- The call returns a slice of n elements in a new block b. -/
def New (b : Option Blk) (n : Nat) (m : AM) : Value → AM → Prop := fun v m' => v = .slice (some ⟨m.length, 0, none⟩) n n ∧ m' = m ++ [b]
theorem Step.callR {args : Array Operand} {tys : Array TypeId} {g : FuncId} {vs : List Value} {fn : Func} {b : Code} {r : Value} (hP : Fit P) (ha : evL t args.toList = some vs) (hf : P.funcs[g]? = some fn) (hb : fn.body = some b)
    (hlt : Nat.blt d nt = true) (h : ACall P g vs.toArray m (Ret r m)) (hK : K (put t d r) m) : Step P nt ops ⟨some d, .call ⟨.value (.func g), args, tys⟩, T, p, af, none⟩ t m K :=
  .callF hP ha hf hb hlt h (by rintro v m' ⟨rfl, rfl⟩; exact hK)
theorem Step.callN {args : Array Operand} {tys : Array TypeId} {g : FuncId} {vs : List Value} {fn : Func} {b : Code} {n k : Nat} {bl : Option Blk} {M L L' : AM} (hP : Fit P) (hk : L.length = k) (ha : evL t args.toList = some vs) (hf : P.funcs[g]? = some fn) (hb : fn.body = some b)
    (hlt : Nat.blt d nt = true) (h : ACall P g vs.toArray (M ++ L) (New bl n (M ++ L))) (hL : L ++ [bl] = L') (hK : K (put t d (.slice (some ⟨M.length + k, 0, none⟩) n n)) (M ++ L')) : Step P nt ops ⟨some d, .call ⟨.value (.func g), args, tys⟩, T, p, af, none⟩ t (M ++ L) K :=
  .callF hP ha hf hb hlt h (by
    rintro v m' ⟨rfl, rfl⟩
    subst hL
    rw [List.length_append, hk, List.append_assoc]
    exact hK)
/-- A call through a closure. -/
theorem Step.callV {x : Operand} {args : Array Operand} {tys : Array TypeId} {g : FuncId} {f c : Array Value} {vs : List Value} {fn : Func} {b : Code} {r : Value} (hP : Fit P) (hx : evo t x = some (.func (.func g) f c)) (ha : evL t args.toList = some vs) (hf : P.funcs[g]? = some fn) (hb : fn.body = some b)
    (hlt : Nat.blt d nt = true) (h : ACall P g (f ++ vs.toArray ++ c) m (Ret r m)) (hK : K (put t d r) m) : Step P nt ops ⟨some d, .call ⟨.value x, args, tys⟩, T, p, af, none⟩ t m K :=
  .call hP hx ha hf hb hlt h (by rintro v m' ⟨rfl, rfl⟩; exact hK)
/-- nil or not -/
theorem Step.eqNil {x y : Operand} {X Y : TypeId} {q : Addr} {n c : Nat} {e : TypeId} (hx : evo t x = some (.slice (some q) n c)) (hy : evo t y = some (.slice none 0 0)) (hX : P.underlying X = some (.slice e)) (hlt : Nat.blt d nt = true) (hK : K (put t d (.bool false)) m) : Step P nt ops ⟨some d, .binOp .eql X x y Y, T, p, af, none⟩ t m K :=
  .q rfl rfl hlt (by simp [Op.operands, hx, hy]) (by simp [aquiet, evD_of hx, evD_of hy, aint, anil, hX, bEq]) hK
end
/-- The block at p is the one that lay at q: other names, and what the call made besides is let go. -/
theorem Gc.mv {t : Fm} {M L L1 : AM} {p q : Nat} {l : List (Nat × Value)} (hp : p < L1.length) (hq : L1.length ≤ q) (hpq : L1[p]? = L[q]?) (hrest : ∀ j b, j ≠ p → L1[j]? = some (some b) → L[j]? = some (some b))
    (hc : ∀ b, some b ∈ L1 → ∀ v ∈ b.cells, Ren (fun i => if i = M.length + p then M.length + q else i) (M.length + L1.length) v v)
    (h : All (fun i v => ∃ v', t i = some v' ∧ Ren (fun i => if i = M.length + p then M.length + q else i) (M.length + L1.length) v v') l) : Gc M t (M ++ L) (fr l) (M ++ L1) := by
  refine ⟨fun i => if i = M.length + p then M.length + q else i, by simp, fun j hj => if_neg (by omega), fun i j b c hi hj e => ?_, fun j b hj => ?_, fun i v hi => by
    obtain ⟨v', h1, h2⟩ := fr_all h i v hi
    exact ⟨v', h1, by simpa using h2⟩⟩
  · have hi' := (List.getElem?_eq_some_iff.1 hi).1
    have hj' := (List.getElem?_eq_some_iff.1 hj).1
    simp at hi' hj'
    simp only at e
    split at e <;> split at e <;> omega
  · rcases Nat.lt_or_ge j M.length with hlt | hge
    · rw [List.getElem?_append_left hlt] at hj
      exact .inl ⟨hlt, get_old _ hj, hj⟩
    · have hj0 := hj
      rw [List.getElem?_append_right hge] at hj
      have hmem := List.mem_of_getElem? hj
      refine .inr ⟨b, ?_, rfl, rfl, rfl, fun k v hk => ⟨v, hk, ?_⟩⟩
      · by_cases e : j = M.length + p
        · subst e
          simp only [if_true]
          rw [Nat.add_sub_cancel_left] at hj
          rw [get_app, ← hpq]; exact hj
        · simp only [if_neg e]
          rw [List.getElem?_append_right hge]
          exact hrest _ b (by omega) hj
      · have := hc b hmem v (List.mem_of_getElem? hk)
        simpa using this
end Go.Proofs.Ytmomjannlnafcaa.Abs
namespace Go.Proofs.Ytmomjannlnafcaa.Abs
set_option linter.unusedSimpArgs false
set_option linter.unusedVariables false
open Go.RowKit
open Go.Proofs.Ytmomjannlnafcaa.Sim
/-- From here a round may begin anew with the frame l and the blocks L. -/
def Back (M : AM) (t : Fm) (m : AM) (l : List (Nat × Value)) (L : AM) : Prop := (m = M ++ L ∧ All (fun i v => t i = some v) l) ∨ Gc M t m (fr l) (M ++ L)
section
variable {P : Program} {nt : Nat} {M L : AM} {t : Fm} {Q : AEx → Fm → AM → Prop} {ops : Array Oper} {K : Fm → AM → Prop} {d T : Nat} {p : String} {af : Array Edge}
theorem Back.ok {base : Nat} {R R0 : Pl} {m : AM} {w w0 : World} {u : Array Value} {l : List (Nat × Value)} (h : Back M t m l L) (h0 : MRep base R0 M w0) (hp : Post base M m R0 R w0 w) (ht : FR R nt t u) : ∃ R1, Post base M (M ++ L) R0 R1 w0 w ∧ FR R1 nt (fr l) u := by
  rcases h with ⟨rfl, h⟩ | h
  · exact ⟨R, hp, ht.weak (fr_all h)⟩
  · exact h.ok h0 hp ht
theorem AW.loopT {c : Code} (I : Nat → List (Nat × Value) → AM → Prop) (h0 : ∃ k l L', Back M t (M ++ L) l L' ∧ I k l L')
    (round : ∀ k l L, I k l L → AW P nt M c (fr l) (M ++ L) (Then (fun t' m' => ∃ k' l' L', k' < k ∧ Back M t' m' l' L' ∧ I k' l' L') Q)) : AW P nt M (.loop c) t (M ++ L) Q := by
  intro base R0 w0 R ac w hb hm0 hp ht
  let J : Nat → Act → World → Prop := fun k a w => ∃ l L R, I k l L ∧ Post base M (M ++ L) R0 R w0 w ∧ FR R nt (fr l) a.tmps ∧ a.defers = ac.defers
  have hJ0 : ∃ k, J k ac w := by
    obtain ⟨k, l, L', h1, h2⟩ := h0
    obtain ⟨R1, k1, k2⟩ := h1.ok hm0 hp ht
    exact ⟨k, l, L', R1, h2, k1, k2, rfl⟩
  open Classical in
  let μ : Act → World → Nat := fun a w => if h : ∃ k, J k a w then Classical.choose (least _ h) else 0
  have hμ : ∀ a w (h : ∃ k, J k a w), J (μ a w) a w ∧ ∀ k, J k a w → μ a w ≤ k := fun a w h => by
    have hs := Classical.choose_spec (least _ h)
    have e : μ a w = Classical.choose (least _ h) := dif_pos h
    rw [e]
    exact ⟨hs.1, fun k hk => Nat.le_of_not_lt fun hlt => hs.2 k hlt hk⟩
  refine wp_loop (fun a w => ∃ k, J k a w) μ hJ0 fun a w hJ => ?_
  obtain ⟨⟨l2, L2, R2, q1, q2, q3, q4⟩, _⟩ := hμ a w hJ
  refine wp_mono (round _ _ _ q1 base R0 w0 R2 a w hb hm0 q2 q3) ?_
  rintro ex a' w' ⟨e, t', m', R', rfl, h2, h3, h4, h5⟩
  cases e with
  | normal =>
    obtain ⟨k', l', L', r1, r2, r3⟩ := h5
    obtain ⟨R1, s1, s2⟩ := r2.ok hm0 h3 h4
    have hJ' : J k' a' w' := ⟨l', L', R1, r3, s1, s2, h2.trans q4⟩
    exact ⟨⟨k', hJ'⟩, Nat.lt_of_le_of_lt ((hμ a' w' ⟨k', hJ'⟩).2 k' hJ') r1⟩
  | exit i => exact ⟨.exit i, t', m', R', rfl, h2.trans q4, h3, h4, h5⟩
  | ret => exact ⟨.ret, t', m', R', rfl, h2.trans q4, h3, h4, h5⟩
theorem ACall.start {f : FuncId} {fn : Func} {c : Code} {args : Array Value} {Q : Value → AM → Prop} (hf : P.funcs[f]? = some fn) (hb : fn.body = some c) (hsz : Nat.ble args.size fn.ntmps = true)
    (h : AW P fn.ntmps M c (argF args) (M ++ []) (Ends P fn Q)) : ACall P f args M Q :=
  .intro hf hb (Nat.le_of_ble_eq_true hsz) (by rw [List.append_nil] at h; exact h)
/-- Cells that name no blocks. -/
def CellsOk (L : AM) : Prop := ∀ b, some b ∈ L → ∀ v ∈ b.cells, g0 v = true
theorem CellsOk.nil : CellsOk [] := fun b h => by simp at h
theorem CellsOk.none {L : AM} (h : CellsOk L) : CellsOk (none :: L) := fun b hb => h b (by simpa using hb)
theorem CellsOk.cons {b : Blk} {L : AM} (hb : ∀ v ∈ b.cells, g0 v = true) (h : CellsOk L) : CellsOk (some b :: L) := fun c hc => by
  rcases List.mem_cons.1 hc with e | e
  · injection e with e; subst e; exact hb
  · exact h c e
theorem Back.trim {m : AM} {l : List (Nat × Value)} {L1 L2 L3 : AM} (hm : m = M ++ L3) (hL : L3 = L1 ++ L2) (hc : CellsOk L1) (h : All (fun i v => t i = some v ∧ Ren rid (M.length + L1.length) v v) l) : Back M t m l L1 := by
  subst hm
  exact .inr (Gc.trim hL (fun b hb v hv => .of_g0 (hc b hb v hv)) h)
theorem Back.mv {m : AM} {l : List (Nat × Value)} {L1 L3 : AM} (p q : Nat) (hm : m = M ++ L3) (hp : Nat.blt p L1.length = true) (hq : Nat.ble L1.length q = true) (hpq : L1[p]? = L3[q]?) (hrest : ∀ j b, j ≠ p → L1[j]? = some (some b) → L3[j]? = some (some b)) (hc : CellsOk L1)
    (h : All (fun i v => ∃ v', t i = some v' ∧ Ren (fun i => if i = M.length + p then M.length + q else i) (M.length + L1.length) v v') l) : Back M t m l L1 := by
  subst hm
  exact .inr (Gc.mv (by simpa using hp) (Nat.le_of_ble_eq_true hq) hpq hrest (fun b hb v hv => .of_g0 (hc b hb v hv)) h)
theorem Ren.slice_mv {N p q : Nat} {l c o n : Nat} (h : N + p < n) : Ren (fun i => if i = N + p then N + q else i) n (.slice (some ⟨N + p, o, none⟩) l c) (.slice (some ⟨N + q, o, none⟩) l c) := by
  have := Ren.slice (ρ := fun i => if i = N + p then N + q else i) (n := n) (N + p) o l c h
  simpa using this
theorem Ren.slice_ne {N p q : Nat} {a l c o n : Nat} (h : a < n) (hne : a ≠ N + p) : Ren (fun i => if i = N + p then N + q else i) n (.slice (some ⟨a, o, none⟩) l c) (.slice (some ⟨a, o, none⟩) l c) := by
  have := Ren.slice (ρ := fun i => if i = N + p then N + q else i) (n := n) a o l c h
  simpa [hne] using this
theorem Ren.spot_ne {N p q : Nat} {a o n k : Nat} (h : a < n) (hne : a ≠ N + p) : Ren (fun i => if i = N + p then N + q else i) n (.slice (some ⟨a, o, some k⟩) 0 0) (.slice (some ⟨a, o, some k⟩) 0 0) := by
  have := Ren.sliceSpot (ρ := fun i => if i = N + p then N + q else i) (n := n) a o k h
  simpa [hne] using this
theorem Ren.of_sl_ne {N p q : Nat} {v : Value} {a o n k : Nat} (h : Sl v a o k) (ha : a < N) (hn : N ≤ n) : Ren (fun i => if i = N + p then N + q else i) n v v := by
  rcases h with ⟨rfl, _⟩ | ⟨c, _, rfl⟩ | ⟨_, o', k', rfl⟩
  · exact .sliceNil
  · exact .slice_ne (by omega) (by omega)
  · exact .spot_ne (by omega) (by omega)
/-- At the end: all that the call made is let go. -/
theorem AW.retD {l : List (Nat × Value)} (h : All (fun i v => t i = some v ∧ Ren rid M.length v v) l) (hQ : Q .ret (fr l) M) : AW P nt M .ret t (M ++ L) Q := .gc (Gc.drop h) (.ret hQ)
theorem AW.retB {l : List (Nat × Value)} {L1 : AM} (hB : Back M t (M ++ L) l L1) (hQ : Q .ret (fr l) (M ++ L1)) : AW P nt M .ret t (M ++ L) Q := by
  intro base R0 w0 R a w hb h0 hp ht
  obtain ⟨R1, k1, k2⟩ := hB.ok h0 hp ht
  exact AW.ret hQ base R0 w0 R1 a w hb h0 k1 k2
theorem Step.ix1z {x y : Operand} {a n k X : Nat} {kk : IntKind} {v : Value} {m : AM} (hx : evo t x = some v) (hs : Sl v a 0 n) (hy : evo t y = some (.int kk ((k : Nat) : Int))) (he : elB P X = some 1) (hlt : Nat.blt d nt = true) (hk : k < n) (hK : K (put t d (.pointer (some ⟨a, k, none⟩))) m) : Step P nt ops ⟨some d, .indexAddr X x y, T, p, af, none⟩ t m K :=
  .ix1 hx hs hy he hlt hk (by simpa using hK)
theorem Step.ixz {x y : Operand} {s a n k X : Nat} {kk : IntKind} {v : Value} {m : AM} (hx : evo t x = some v) (hs : Sl v a 0 n) (hy : evo t y = some (.int kk ((k : Nat) : Int))) (he : elB P X = some s) (hlt : Nat.blt d nt = true) (hk : k < n) (hK : K (put t d (.pointer (some ⟨a, k * s, none⟩))) m) : Step P nt ops ⟨some d, .indexAddr X x y, T, p, af, none⟩ t m K :=
  .ix hx hs hy he hlt hk (by simpa using hK)
end
def planB (P : Program) (ops : Array Oper) : Bool := match plan P ops ops.size (Array.replicate ops.size false) with
  | some q => q == List.range ops.size
  | none => false
def AWo (P : Program) (nt : Nat) (ops : Array Oper) : List Oper → Fm → AM → (Fm → AM → Prop) → Prop
  | [], t, m, Q => Q t m
  | o :: rest, t, m, Q => Step P nt ops o t m (fun t m => AWo P nt ops rest t m Q)
section
variable {P : Program} {nt : Nat} {ops : Array Oper} {t : Fm} {m m0 : AM}
theorem AWo.nil {Q : Fm → AM → Prop} (h : Q t m) : AWo P nt ops [] t m Q := h
theorem AWo.cons {o : Oper} {rest : List Oper} {Q : Fm → AM → Prop} (h : Step P nt ops o t m (fun t m => AWo P nt ops rest t m Q)) : AWo P nt ops (o :: rest) t m Q := h
theorem AWo.to {Q : Fm → AM → Prop} : ∀ (l : List Oper) (k : Nat) (t : Fm) (m : AM), (∀ j, l[j]? = ops[k + j]?) → AWo P nt ops l t m Q → AWi P nt ops (List.range' k l.length) t m Q
  | [], _, _, _, _, h => h
  | o :: rest, k, t, m, hl, h => by
    rw [List.length_cons, List.range'_succ]
    refine ⟨o, by have := hl 0; simpa using this.symm, ?_⟩
    exact Step.mono h fun v m' hk => AWo.to rest (k + 1) _ _ (fun j => by have := hl (j + 1); simpa [Nat.add_assoc, Nat.add_comm 1 j] using this) hk
theorem AW.regL {id : Nat} {l : List Oper} {Q : AEx → Fm → AM → Prop} (h : AWo P nt l.toArray l t m (fun t m => Q .normal t m)) : AW P nt m0 (.region id l.toArray false) t m Q :=
  .reg rfl (by
    have := AWo.to l 0 t m (by simp) h
    simpa [List.range_eq_range'] using this)
/-- A region that draws, and whose plan is the order of the text. -/
theorem AW.drawL (hP : Fit P) {id : Nat} {l : List Oper} {Q : AEx → Fm → AM → Prop} (hl : planB P l.toArray = true) (h : AWo P nt l.toArray l t m (fun t m => Q .normal t m)) : AW P nt m0 (.region id l.toArray true) t m Q := by
  unfold planB at hl
  split at hl
  · rename_i q hq
    have e := eq_of_beq hl
    subst e
    exact .draw hP hq (by
      have := AWo.to l 0 t m (by simp) h
      simpa [List.range_eq_range'] using this)
  · cases hl
end
def iv (l : List Int) : List Value := l.map (.int .i64)
def bv (l : List Bool) : List Value := l.map .bool
theorem iv_get {l : List Int} {k : Nat} (h : k < l.length) : (iv l)[k]? = some (.int .i64 (l.getD k 0)) := by simp [iv, h]
theorem bv_get {l : List Bool} {k : Nat} (h : k < l.length) : (bv l)[k]? = some (.bool (l.getD k false)) := by simp [bv, h]
theorem iv_set (l : List Int) (k : Nat) (x : Int) : (iv l).set k (.int .i64 x) = iv (l.set k x) := by simp [iv, List.map_set]
theorem bv_set (l : List Bool) (k : Nat) (x : Bool) : (bv l).set k (.bool x) = bv (l.set k x) := by simp [bv, List.map_set]
theorem iv_rep (n : Nat) : List.replicate n (.int .i64 0) = iv (List.replicate n 0) := by simp [iv]
theorem bv_rep (n : Nat) : List.replicate n (.bool false) = bv (List.replicate n false) := by simp [bv]
theorem iv_len (l : List Int) : (iv l).length = l.length := by simp [iv]
theorem g0_iv (l : List Int) : ∀ v ∈ iv l, g0 v = true := fun v h => by
  obtain ⟨x, _, rfl⟩ := List.mem_map.1 h; rfl
theorem g0_bv (l : List Bool) : ∀ v ∈ bv l, g0 v = true := fun v h => by
  obtain ⟨x, _, rfl⟩ := List.mem_map.1 h; rfl
theorem iv_one (l : List Int) : (iv l).all (·.oneCell') = true := by simp [iv, Value.oneCell']
theorem ints_new {M : AM} {L : AM} {k : Nat} {l : List Int} {b : Blk} (h : L[k]? = some (some b)) (hb : b.cells = iv l) (n : Nat) (hn : n = l.length) : Ints (M ++ L) (.slice (some ⟨M.length + k, 0, none⟩) n n) l := by
  subst hn
  refine ⟨M.length + k, 0, Sl.mk (Nat.le_refl _), by have := (List.getElem?_eq_some_iff.1 h).1; simp; omega, fun j hj => ?_⟩
  exact Rd.new h (by rw [hb, Nat.zero_add]; exact iv_get hj)
theorem ints_at {M : AM} {l : List Int} {b : Blk} {a : Nat} (h : M[a]? = some (some b)) (hb : b.cells = iv l) (n : Nat) (hn : n = l.length) : Ints M (.slice (some ⟨a, 0, none⟩) n n) l := by
  subst hn
  exact ⟨a, 0, Sl.mk (Nat.le_refl _), (List.getElem?_eq_some_iff.1 h).1, fun j hj => ⟨b, h, by rw [hb, Nat.zero_add]; exact iv_get hj⟩⟩
theorem ints_nil {M : AM} (hM : 0 < M.length) : Ints M (.slice none 0 0) [] := ⟨0, 0, .inl ⟨rfl, rfl⟩, hM, fun k hk => by simp at hk⟩
end Go.Proofs.Ytmomjannlnafcaa.Abs
namespace Go.Proofs.Ytmomjannlnafcaa.Abs
set_option linter.unusedSimpArgs false
set_option linter.unusedVariables false
open Go.RowKit
open Go.Proofs.Ytmomjannlnafcaa.Sim
open Go.Proofs
theorem fit : Fit Try.prog := ⟨fun f fn h => by
  have key : (Try.prog.funcs.toList.all fun fn => !(fn.name == "runtime.NumGoroutine")) = true := by kernel_rfl
  have := List.all_eq_true.1 key fn (by simpa using Array.mem_of_getElem? h)
  simpa using this, by kernel_rfl⟩
theorem el23 : elemB Try.prog 23 = some (3, 1, 8, #[.int .i64 0]) := by kernel_rfl
theorem el84 : elemB Try.prog 84 = some (4, 1, 1, #[.bool false]) := by kernel_rfl
theorem un23 : Try.prog.underlying 23 = some (.slice 3) := by kernel_rfl
structure Two where
  cut : Int
  sew : Int
instance : Inhabited Two := ⟨⟨0, 0⟩⟩
def Two.cells (x : Two) : List Value := [.int .i64 x.cut, .int .i64 x.sew]
def Twos (m : AM) (v : Value) (l : List Two) : Prop := ∃ a o, Sl v a o l.length ∧ a < m.length ∧ ∀ k, k < l.length → RdL m a (o + k * 2) (l.getD k default).cells
theorem Twos.old {m : AM} {v : Value} {l : List Two} (L : AM) (h : Twos m v l) : Twos (m ++ L) v l := by
  obtain ⟨a, o, h1, h2, h3⟩ := h
  exact ⟨a, o, h1, by simp; omega, fun k hk => (h3 k hk).old L⟩
theorem take_snoc {α : Type} [Inhabited α] (l : List α) (k : Nat) (d : α) (h : k < l.length) : l.take (k + 1) = l.take k ++ [l.getD k d] := by
  rw [List.take_succ_eq_append_getElem h]; simp [h]
set_option maxRecDepth 100000 in
theorem upTo_ok {m : AM} (n : Nat) (hn : n ≤ 100000) : ACall Try.prog 83 #[.int .i64 (n : Nat)] m (New (some { cells := iv ((List.range n).map (Nat.cast : Nat → Int)) }) n m) := by
  refine ACall.start Try.func83 rfl rfl ?_
  (repeat (first | (with_reducible refine AWo.cons ?_) | ((with_reducible refine Step.id ?_); first | ((with_reducible apply Step.move); exact rfl; exact rfl) | ((with_reducible apply Step.assign); exact rfl; exact rfl) | ((with_reducible apply Step.len); exact rfl; (focus (exact Sl.mk (by omega))); (focus (decide +kernel)); exact rfl) | ((with_reducible apply Step.make1 0); exact rfl; exact rfl; exact rfl; exact el23; (focus (omega)); exact rfl; (focus (first | (simp only [List.nil_append, List.cons_append, List.set_cons_zero, List.set_cons_succ, iv_set, bv_set, iv_rep, bv_rep]; done) | (simp only [List.nil_append, List.cons_append, List.set_cons_zero, List.set_cons_succ, iv_set, bv_set, iv_rep, bv_rep]; rfl) | rfl)))) | (with_reducible refine AWo.nil ?_) | ((with_reducible apply AW.seq)) | ((with_reducible apply Then.n)) | ((with_reducible apply AW.regL)) | ((with_reducible apply AW.block))))
  refine AW.loopT (fun r t L => ∃ k : Nat, r = n - k ∧ k ≤ n ∧ L = [some { cells := iv ((List.range k).map (Nat.cast : Nat → Int) ++ List.replicate (n - k) 0) }] ∧
    t = [(3, .slice (some ⟨m.length + 0, 0, none⟩) n n), (8, .int .i64 (n : Nat)), (9, .int .i64 (k : Nat))]) ⟨_, _, _, (Or.inl ⟨rfl, (by repeat (first | exact trivial | (refine And.intro rfl ?_)))⟩), 0, rfl, Nat.zero_le _, by simp, rfl⟩ ?_
  rintro r t L ⟨k, rfl, hk, rfl, rfl⟩
  rcases Nat.lt_or_ge k n with hlt | hge
  · (repeat (first | (with_reducible refine AWo.cons ?_) | ((with_reducible refine Step.id ?_); first | ((with_reducible apply Step.move); exact rfl; exact rfl) | ((with_reducible apply Step.assign); exact rfl; exact rfl) | ((with_reducible apply Step.ix1z); exact rfl; (focus (exact Sl.mk (by omega))); exact rfl; (focus (decide +kernel)); exact rfl; (focus (omega))) | ((with_reducible apply Step.add); exact rfl; exact rfl; (focus (omega)); exact rfl) | ((with_reducible apply Step.lss); exact rfl; exact rfl; exact rfl) | ((with_reducible apply Step.store (k := 0)); exact rfl; exact rfl; exact rfl; exact rfl; (focus (decide +kernel)); exact rfl; exact rfl; (focus (first | omega | (simp [iv, bv]; done) | (simp [iv, bv]; omega))); (focus (first | (simp only [List.nil_append, List.cons_append, List.set_cons_zero, List.set_cons_succ, iv_set, bv_set, iv_rep, bv_rep]; done) | (simp only [List.nil_append, List.cons_append, List.set_cons_zero, List.set_cons_succ, iv_set, bv_set, iv_rep, bv_rep]; rfl) | rfl)))) | (with_reducible refine AWo.nil ?_) | ((with_reducible apply AW.seq)) | ((with_reducible apply Then.n)) | ((with_reducible apply AW.regL)) | ((with_reducible apply AW.block)) | ((with_reducible apply InBlk.n)) | ((with_reducible apply AW.skip)) | ((with_reducible apply AW.condT); exact rfl; (focus ((simp only [decide_eq_true_eq, decide_eq_false_iff_not, Bool.not_eq_true', Bool.not_eq_false', Bool.not_true, Bool.not_false]; first | assumption | omega))))))
    refine ⟨_, _, _, by omega, (Or.inl ⟨rfl, (by repeat (first | exact trivial | (refine And.intro rfl ?_)))⟩), k + 1, rfl, by omega, ?_, rfl⟩
    have : ((List.range k).map (Nat.cast : Nat → Int) ++ List.replicate (n - k) 0).set k (k : Int) = (List.range (k + 1)).map (Nat.cast : Nat → Int) ++ List.replicate (n - (k + 1)) 0 := by
      rw [show n - k = (n - (k + 1)) + 1 by omega, List.replicate_succ, List.set_append_right _ _ (by simp)]
      simp [List.range_succ]
    rw [this]
  · (repeat (first | (with_reducible refine AWo.cons ?_) | ((with_reducible refine Step.id ?_); first | ((with_reducible apply Step.move); exact rfl; exact rfl) | ((with_reducible apply Step.assign); exact rfl; exact rfl) | ((with_reducible apply Step.lss); exact rfl; exact rfl; exact rfl)) | (with_reducible refine AWo.nil ?_) | ((with_reducible apply AW.seq)) | ((with_reducible apply Then.n)) | ((with_reducible apply AW.regL)) | ((with_reducible apply AW.exit)) | ((with_reducible apply InBlk.hit)) | ((with_reducible apply Then.e)) | ((with_reducible apply AW.condF); exact rfl; (focus ((simp only [decide_eq_true_eq, decide_eq_false_iff_not, Bool.not_eq_true', Bool.not_eq_false', Bool.not_true, Bool.not_false]; first | assumption | omega))))))
    obtain rfl : k = n := by omega
    (refine AW.retB (l := [(2, _)]) (Or.inl ⟨rfl, (by repeat (first | exact trivial | (refine And.intro rfl ?_)))⟩) ?_; (repeat (first | refine Then.r ?_ | refine InBlk.r ?_)))
    exact ⟨_, rfl, rfl, by simp⟩
end Go.Proofs.Ytmomjannlnafcaa.Abs
namespace Go.Proofs.Ytmomjannlnafcaa.Abs
set_option linter.unusedSimpArgs false
set_option linter.unusedVariables false
open Go.RowKit
open Go.Proofs.Ytmomjannlnafcaa.Sim
open Go.Proofs
/-- The first number below n of which pr says yes; -1. -/
def idxF (pr : Nat → Bool) (n : Nat) : Int := match (List.range n).find? pr with
  | some k => k
  | none => -1
theorem find_hit {pr : Nat → Bool} {n k : Nat} (hk : k < n) (h0 : ∀ i, i < k → pr i = false) (h1 : pr k = true) : (List.range n).find? pr = some k := by
  rw [List.find?_range_eq_some]
  exact ⟨h1, by simpa using hk, fun j hj => by simp [h0 j hj]⟩
theorem find_miss {pr : Nat → Bool} {n : Nat} (h0 : ∀ i, i < n → pr i = false) : (List.range n).find? pr = none := by
  rw [List.find?_eq_none]
  intro x hx
  simp [h0 x (by simpa using hx)]
theorem idxF_hit {pr : Nat → Bool} {n k : Nat} (hk : k < n) (h0 : ∀ i, i < k → pr i = false) (h1 : pr k = true) : idxF pr n = k := by simp [idxF, find_hit hk h0 h1]
theorem idxF_miss {pr : Nat → Bool} {n : Nat} (h0 : ∀ i, i < n → pr i = false) : idxF pr n = -1 := by simp [idxF, find_miss h0]
end Go.Proofs.Ytmomjannlnafcaa.Abs
namespace Go.Proofs.Ytmomjannlnafcaa.Abs
set_option linter.unusedSimpArgs false
set_option linter.unusedVariables false
open Go.RowKit
open Go.Proofs.Ytmomjannlnafcaa.Sim
section
variable {P : Program} {nt : Nat} {ops : Array Oper} {t : Fm} {m : AM} {K : Fm → AM → Prop} {d T : Nat} {p : String} {af : Array Edge}
theorem still_bind {α β : Type} (s : Sem α) (f : α → Sem β) : Sim.still P (s.bind f) = match Sim.still P s with
  | some a => Sim.still P (f a)
  | none => none := by
  induction s with
  | pure a => rfl
  | program k ih => simp only [Sem.bind, Sim.still]; exact ih _
  | _ => rfl
theorem still_nil {X e : TypeId} (hX : P.underlying X = some (.slice e)) (n : Nat) : Sim.still P (Op.equalIn (n + 1) X (.slice none 0 0) (.slice none 0 0)) = some true := by
  rw [Op.equalIn]
  show Sim.still P (Sem.bind (underlying X) _) = _
  rw [still_bind]
  have : Sim.still P (underlying X) = some (.slice e) := by
    unfold underlying
    show Sim.still P (Sem.bind program _) = _
    rw [still_bind]
    simp [program, Sim.still, hX, pure]
  rw [this]
  rfl
theorem Step.nilNil {x y : Operand} {X Y e : TypeId} (hx : evo t x = some (.slice none 0 0)) (hy : evo t y = some (.slice none 0 0)) (hX : P.underlying X = some (.slice e)) (hlt : Nat.blt d nt = true) (hK : K (put t d (.bool true)) m) : Step P nt ops ⟨some d, .binOp .eql X x y Y, T, p, af, none⟩ t m K := by
  refine .ground rfl rfl hlt (by simp [Op.operands, hx, hy, g1, g0]) (fun h => by simp only [aquiet, evD_of hx, evD_of hy, aint, anil, hX]; simpa [evD_of hx, evD_of hy] using h) ?_ (by simp [g1, g0]) hK
  have he := still_nil hX 9999
  simp only [execOp, eqGuard, binOp, evD_of hx, evD_of hy, bind, Sem.bind, pure]
  show Sim.still P (((Op.equalIn (9999 + 1) X (.slice none 0 0) (.slice none 0 0)).bind _).bind _) = _
  rw [still_bind, still_bind, he]
  rfl
/-- append to an empty slice of one's own: its elements in a new block. -/
theorem Step.appE {x y : Operand} {X Y e e' : TypeId} {s by_ : Nat} {z : Array Value} {k q a o n c : Nat} {new : List Value} {M L L' : AM} (hk : L.length = k) (hx : evo t x = some (.slice (some ⟨M.length + q, 0, none⟩) 0 0)) (hy : evo t y = some (.slice (some ⟨a, o, none⟩) n c)) (hE : elemB P X = some (e, s, by_, z)) (hY : P.underlying Y = some (.slice e'))
    (hs : Nat.blt 0 s = true) (hq : L[q]? = some (some { cells := [] })) (hr : RdL (M ++ L) a o new) (hn : new.length = n * s) (hpos : 0 < n) (hn1 : new.all (·.oneCell') = true) (hb : n * by_ ≤ 1099511627776 ∧ n ≤ 1099511627776) (hlt : Nat.blt d nt = true)
    (hL : L ++ [some { cells := new, kind := .grow, size := s }] = L') (hK : K (put t d (.slice (some ⟨M.length + k, 0, none⟩) n n)) (M ++ L')) :
    Step P nt ops ⟨some d, .call ⟨.builtin .append, #[x, y], #[X, Y]⟩, T, p, af, none⟩ t (M ++ L) K := by
  subst hL
  simp at hs
  refine .l rfl rfl hlt rfl (by simp [Op.operands, Call.operands, hx, hy]) (loudN hk rfl (v := .slice (some ⟨M.length + k, 0, none⟩) n n) ?_ hK)
  obtain ⟨b, r1, r2⟩ := hr
  have hql : q < L.length := (List.getElem?_eq_some_iff.1 hq).1
  have hr' : ((M ++ L) ++ [none])[a]? = some (some b) := get_old _ r1
  have hg : ((M ++ L) ++ [none])[M.length + q]? = some (some { cells := [] }) := by rw [List.append_assoc, get_app, List.getElem?_append_left hql, hq]
  have hns : 0 < n * s := Nat.mul_pos hpos hs
  have hlast := r2 (n * s - 1) new[n * s - 1] (List.getElem?_eq_getElem (by omega))
  have hlen := (List.getElem?_eq_some_iff.1 hlast).1
  have htake : (b.cells.drop o).take (n * s) = new := by
    apply List.ext_getElem?
    intro j
    by_cases hj : j < n * s
    · rw [List.getElem?_take, if_pos hj, List.getElem?_drop, r2 j new[j] (List.getElem?_eq_getElem (by omega)), List.getElem?_eq_getElem (by omega)]
    · rw [List.getElem?_take, if_neg hj, List.getElem?_eq_none (by omega)]
  have hcell : acells ((M ++ L) ++ [none]) s n (.slice (some ⟨a, o, none⟩) n c) = some new := by
    simp only [acells, hr']
    rw [if_neg (by omega), if_pos ⟨Nat.le_refl _, by omega⟩, htake]
  simp only [aloud, evD_of hx, evD_of hy, aappend, hE, hY, aSliceLen, hcell]
  rw [if_neg (by simp [hn1]; omega), if_neg (by omega)]
  simp only [hg]
  rw [if_neg (by omega), if_pos ⟨by simpa using hb.1, by simpa using hb.2, Nat.le_refl _⟩, if_pos (by simp)]
  rw [set_new_at M L hk]
  simp
/-- append of nothing. -/
theorem Step.app0 {x y : Operand} {X Y e e' : TypeId} {s by_ : Nat} {z : Array Value} {k q c : Nat} {r : Addr} {M L L' : AM} (hk : L.length = k) (hx : evo t x = some (.slice (some ⟨M.length + q, 0, none⟩) 0 0)) (hy : evo t y = some (.slice (some r) 0 c)) (hE : elemB P X = some (e, s, by_, z)) (hY : P.underlying Y = some (.slice e'))
    (hs : Nat.blt 0 s = true) (hlt : Nat.blt d nt = true) (hL : L ++ [none] = L')
    (hK : K (put t d (.slice (some ⟨M.length + q, 0, none⟩) 0 0)) (M ++ L')) :
    Step P nt ops ⟨some d, .call ⟨.builtin .append, #[x, y], #[X, Y]⟩, T, p, af, none⟩ t (M ++ L) K := by
  subst hL
  simp at hs
  refine .l rfl rfl hlt rfl (by simp [Op.operands, Call.operands, hx, hy]) (loudN hk rfl (v := .slice (some ⟨M.length + q, 0, none⟩) 0 0) ?_ hK)
  obtain ⟨r1, r2, r3⟩ := r
  cases r3 <;> simp only [aloud, evD_of hx, evD_of hy, aappend, hE, hY, aSliceLen, acells] <;> simp [show s ≠ 0 by omega]
end
theorem Back.pad {M L : AM} {t : Fm} {l : List (Nat × Value)} (h : All (fun i v => t i = some v ∧ Ren rid (M.length + (L ++ [none]).length) v v) l) (hc : CellsOk L) : Back M t (M ++ L) l (L ++ [none]) := by
  refine .inr ⟨rid, by simp, fun _ _ => rfl, fun _ _ _ _ _ _ e => e, fun j b hj => ?_, fun i v hi => by
    obtain ⟨h1, h2⟩ := fr_all h i v hi
    exact ⟨v, h1, by simpa using h2⟩⟩
  have hj2 : (M ++ L)[j]? = some (some b) := by
    rw [← List.append_assoc] at hj
    rcases Nat.lt_or_ge j (M ++ L).length with hlt | hge
    · rwa [List.getElem?_append_left hlt] at hj
    · rw [List.getElem?_append_right hge] at hj
      cases q : j - (M ++ L).length with
      | zero => rw [q] at hj; simp at hj
      | succ q' => rw [q] at hj; simp at hj
  rcases Nat.lt_or_ge j M.length with hlt | hge
  · refine .inl ⟨hlt, hj2, ?_⟩
    rwa [List.getElem?_append_left hlt] at hj2
  · refine .inr ⟨b, hj2, rfl, rfl, rfl, fun k v hk => ⟨v, hk, ?_⟩⟩
    rw [List.getElem?_append_right hge] at hj2
    exact .of_g0 (hc b (List.mem_of_getElem? hj2) v (List.mem_of_getElem? hk))
theorem CellsOk.gb {c : List Value} {s : Nat} {L : AM} (hb : ∀ v ∈ c, g0 v = true) (h : CellsOk L) : CellsOk (gb c s :: L) := by
  cases c with
  | nil => exact .none h
  | cons x l => exact .cons hb h
theorem Ren.of_gv {N a n : Nat} (h : a < N) : Ren rid N (gv a n) (gv a n) := by
  unfold Abs.gv
  split
  · exact .sliceNil
  · exact .slice _ _ _ _ h
theorem Ren.of_gv_ne {N a n p q M : Nat} (h : a < N) (hne : a ≠ M + p) : Ren (fun i => if i = M + p then M + q else i) N (gv a n) (gv a n) := by
  unfold Abs.gv
  split
  · exact .sliceNil
  · exact .slice_ne h hne
end Go.Proofs.Ytmomjannlnafcaa.Abs
namespace Go.Proofs
set_option linter.unusedSimpArgs false
set_option linter.unusedVariables false
open Go.Shelf
def sortInt_ren : Go.Shelf.Ren := ⟨fun | 53 => 114 | 64 => 126 | 63 => 125 | 78 => 139 | 79 => 140 | 70 => 130 | 71 => 131 | 72 => 132 | 73 => 133 | 74 => 134 | 75 => 135 | 59 => 136 | 76 => 137 | 77 => 138 | 88 => 142 | 89 => 143 | 90 => 144 | 91 => 145 | 92 => 146 | 68 => 103 | 96 => 148 | n => n, fun | 22 => 23 | 23 => 3 | 3 => 3 | 51 => 46 | 0 => 0 | 67 => 135 | 69 => 137 | 4 => 4 | 61 => 128 | 60 => 127 | 44 => 132 | 5 => 5 | 9 => 9 | 75 => 138 | 79 => 142 | 83 => 144 | 84 => 97 | n => n, fun | n => n⟩
theorem sortInt : Go.Proofs.SlLaysN.n53 Try.prog sortInt_ren := {
  mixed := by kernel_rfl
  f53 := ⟨Try.f114.name, by decide, Try.func114.trans (congrArg some (by kernel_rfl))⟩
  f59 := ⟨Try.f136.name, by decide, Try.func136.trans (congrArg some (by kernel_rfl))⟩
  f63 := ⟨Try.f125.name, by decide, Try.func125.trans (congrArg some (by kernel_rfl))⟩
  f64 := Try.func126.trans (congrArg some (by kernel_rfl))
  f68 := ⟨Try.f103.name, by decide, Try.func103.trans (congrArg some (by kernel_rfl))⟩
  f70 := ⟨Try.f130.name, by decide, Try.func130.trans (congrArg some (by kernel_rfl))⟩
  f71 := ⟨Try.f131.name, by decide, Try.func131.trans (congrArg some (by kernel_rfl))⟩
  f72 := ⟨Try.f132.name, by decide, Try.func132.trans (congrArg some (by kernel_rfl))⟩
  f73 := ⟨Try.f133.name, by decide, Try.func133.trans (congrArg some (by kernel_rfl))⟩
  f74 := ⟨Try.f134.name, by decide, Try.func134.trans (congrArg some (by kernel_rfl))⟩
  f75 := ⟨Try.f135.name, by decide, Try.func135.trans (congrArg some (by kernel_rfl))⟩
  f76 := ⟨Try.f137.name, by decide, Try.func137.trans (congrArg some (by kernel_rfl))⟩
  f77 := ⟨Try.f138.name, by decide, Try.func138.trans (congrArg some (by kernel_rfl))⟩
  f78 := Try.func139.trans (congrArg some (by kernel_rfl))
  f79 := Try.func140.trans (congrArg some (by kernel_rfl))
  f88 := ⟨Try.f142.name, by decide, Try.func142.trans (congrArg some (by kernel_rfl))⟩
  f89 := Try.func143.trans (congrArg some (by kernel_rfl))
  f90 := Try.func144.trans (congrArg some (by kernel_rfl))
  f91 := ⟨Try.f145.name, by decide, Try.func145.trans (congrArg some (by kernel_rfl))⟩
  f92 := ⟨Try.f146.name, by decide, Try.func146.trans (congrArg some (by kernel_rfl))⟩
  f96 := ⟨Try.f148.name, by decide, Try.func148.trans (congrArg some (by kernel_rfl))⟩
  t0 := Try.underlying0
  a0 := Try.isAgg0
  z0 := Try.sizeOf0
  v0 := Try.zeroValue0
  t3 := Try.underlying3
  a3 := Try.isAgg3
  z3 := Try.sizeOf3
  v3 := Try.zeroValue3
  t4 := Try.underlying4
  a4 := Try.isAgg4
  z4 := Try.sizeOf4
  v4 := Try.zeroValue4
  t5 := Try.underlying5
  a5 := Try.isAgg5
  z5 := Try.sizeOf5
  v5 := Try.zeroValue5
  t9 := Try.underlying9
  a9 := Try.isAgg9
  z9 := Try.sizeOf9
  v9 := Try.zeroValue9
  t22 := Try.underlying23
  a22 := Try.isAgg23
  z22 := Try.sizeOf23
  v22 := Try.zeroValue23
  t23 := Try.underlying3
  a23 := Try.isAgg3
  z23 := Try.sizeOf3
  v23 := Try.zeroValue3
  t44 := Try.underlying132
  a44 := Try.isAgg132
  z44 := Try.sizeOf132
  v44 := Try.zeroValue132
  t51 := Try.underlying46
  a51 := Try.isAgg46
  z51 := Try.sizeOf46
  v51 := Try.zeroValue46
  t60 := Try.underlying127
  a60 := Try.isAgg127
  z60 := Try.sizeOf127
  v60 := Try.zeroValue127
  t61 := Try.underlying128
  a61 := Try.isAgg128
  z61 := Try.sizeOf128
  v61 := Try.zeroValue128
  t67 := Try.underlying135
  a67 := Try.isAgg135
  z67 := Try.sizeOf135
  v67 := Try.zeroValue135
  t69 := Try.underlying137
  a69 := Try.isAgg137
  z69 := Try.sizeOf137
  v69 := Try.zeroValue137
  t75 := Try.underlying138
  a75 := Try.isAgg138
  z75 := Try.sizeOf138
  v75 := Try.zeroValue138
  t79 := Try.underlying142
  a79 := Try.isAgg142
  z79 := Try.sizeOf142
  v79 := Try.zeroValue142
  t83 := Try.underlying144
  a83 := Try.isAgg144
  z83 := Try.sizeOf144
  v83 := Try.zeroValue144
  t84 := Try.underlying97
  a84 := Try.isAgg97
  z84 := Try.sizeOf97
  v84 := Try.zeroValue97 }
end Go.Proofs
namespace Go.Proofs.Ytmomjannlnafcaa.Abs
set_option linter.unusedSimpArgs false
set_option linter.unusedVariables false
open Go.RowKit
open Go.Proofs.Ytmomjannlnafcaa.Sim
open Go.Proofs
theorem bs23 {m : AM} {n : Nat} : abuildSlice Try.prog m n 23 0 [] = some (.slice (some ⟨n, 0, none⟩) 0 0, m.set n (some { cells := [] })) := by kernel_rfl
theorem rows_rdl {m : AM} {a o : Nat} {c : List Value} (hpos : 0 < c.length) (h : ∀ k, k < c.length → Rd m a (o + k) (c.getD k undef)) : RdL m a o c := by
  obtain ⟨b, h1, _⟩ := h 0 hpos
  refine ⟨b, h1, fun j v hj => ?_⟩
  have hjl := (List.getElem?_eq_some_iff.1 hj).1
  obtain ⟨b', k1, k2⟩ := h j hjl
  rw [h1] at k1; injection k1 with k1; injection k1 with k1; subst k1
  rw [k2]
  simp [← hj, hjl]
theorem ints_rdl {m : AM} {a o : Nat} {l : List Int} (hpos : 0 < l.length) (h : ∀ k, k < l.length → Rd m a (o + k) (.int .i64 (l.getD k 0))) : RdL m a o (iv l) :=
  rows_rdl (by simpa [iv] using hpos) fun k hk => by
    have hk' : k < l.length := by simpa [iv] using hk
    have := h k hk'
    simpa [iv, hk'] using this
end Go.Proofs.Ytmomjannlnafcaa.Abs
namespace Go.Proofs.Ytmomjannlnafcaa.Abs
set_option linter.unusedSimpArgs false
set_option linter.unusedVariables false
open Go.RowKit
open Go.Proofs.Ytmomjannlnafcaa.Sim
open Go.Proofs
section
variable {P : Program} {nt : Nat} {ops : Array Oper} {t : Fm} {K : Fm → AM → Prop} {d T : Nat} {p : String} {af : Array Edge}
/-- A call for its effect on memory. -/
theorem Step.callE {args : Array Operand} {tys : Array TypeId} {g : FuncId} {vs : List Value} {fn : Func} {b : Code} {m m' : AM} {r : Value} (hP : Fit P) (ha : evL t args.toList = some vs) (hf : P.funcs[g]? = some fn) (hb : fn.body = some b)
    (hlt : Nat.blt d nt = true) (h : ACall P g vs.toArray m (fun v m1 => v = r ∧ m1 = m')) (hK : K (put t d r) m') : Step P nt ops ⟨some d, .call ⟨.value (.func g), args, tys⟩, T, p, af, none⟩ t m K :=
  .callF hP ha hf hb hlt h (by rintro v m1 ⟨rfl, rfl⟩; exact hK)
end
def srt (l : List Int) : List Int := l.mergeSort (fun x y => decide (x ≤ y))
theorem srt_len (l : List Int) : (srt l).length = l.length := by simp [srt]
theorem sort_nil {m : AM} : ACall Try.prog 114 #[.slice none 0 0] m (fun v m' => v = .tuple #[] ∧ m' = m) :=
  ACall.of_calls (by kernel_rfl) (by kernel_rfl) fun w => closed_call fit (n := 300) (by kernel_rfl) (by kernel_rfl) (by kernel_rfl) w
def upI (n : Nat) : List Int := (List.range n).map (Nat.cast : Nat → Int)
theorem upI_len (n : Nat) : (upI n).length = n := by simp [upI]
def orderB (l : List Int) (n : Nat) : Bool := decide (l.length = n) && decide (srt l = upI n)
end Go.Proofs.Ytmomjannlnafcaa.Abs
namespace Go.Proofs.Ytmomjannlnafcaa.Abs
set_option linter.unusedSimpArgs false
set_option linter.unusedVariables false
open Go.RowKit
open Go.Proofs.Ytmomjannlnafcaa.Sim
theorem nodup_le {α : Type} [DecidableEq α] : ∀ (l r : List α), l.Nodup → (∀ x ∈ l, x ∈ r) → l.length ≤ r.length
  | [], r, _, _ => by simp
  | a :: l, r, h, hs => by
    have h1 := List.nodup_cons.1 h
    have ha : a ∈ r := hs a (by simp)
    have := nodup_le l (r.erase a) h1.2 fun x hx => by
      have hne : x ≠ a := fun e => h1.1 (e ▸ hx)
      exact (List.mem_erase_of_ne hne).2 (hs x (by simp [hx]))
    rw [List.length_erase_of_mem ha] at this
    have := List.length_pos_of_mem ha
    simp; omega
theorem mem_upI {n : Nat} {x : Int} : x ∈ upI n ↔ 0 ≤ x ∧ x < n := by
  simp only [upI, List.mem_map, List.mem_range]
  constructor
  · rintro ⟨k, hk, rfl⟩; omega
  · rintro ⟨h1, h2⟩; exact ⟨x.toNat, by omega, by omega⟩
theorem upI_nodup (n : Nat) : (upI n).Nodup := by
  unfold upI
  have := List.nodup_range (n := n)
  exact List.Pairwise.map _ (fun a b h e => h (by omega)) this
theorem upI_sorted (n : Nat) : (upI n).Pairwise (fun x y => decide (x ≤ y) = true) := by
  unfold upI
  exact List.Pairwise.map _ (fun a b h => by simp; omega) (List.pairwise_lt_range (n := n))
/-- A slice is an order of n if and only if it has n elements, each below n, each once. -/
theorem orderB_iff {l : List Int} {n : Nat} : orderB l n = true ↔ l.length = n ∧ (∀ x ∈ l, 0 ≤ x ∧ x < n) ∧ l.Nodup := by
  simp only [orderB, Bool.and_eq_true, decide_eq_true_eq]
  constructor
  · rintro ⟨h1, h2⟩
    have hp : (srt l).Perm l := List.mergeSort_perm l _
    rw [h2] at hp
    exact ⟨h1, fun x hx => mem_upI.1 (hp.mem_iff.2 hx), hp.nodup_iff.1 (upI_nodup n)⟩
  · rintro ⟨h1, h2, h3⟩
    refine ⟨h1, ?_⟩
    have hsub : ∀ x ∈ l, x ∈ upI n := fun x hx => mem_upI.2 (h2 x hx)
    have hsup : ∀ x ∈ upI n, x ∈ l := fun x hx => Classical.byContradiction fun hn => by
      have := nodup_le l ((upI n).erase x) h3 fun y hy => (List.mem_erase_of_ne (fun (e : y = x) => hn (e ▸ hy))).2 (hsub y hy)
      rw [List.length_erase_of_mem hx, upI_len] at this
      have := List.length_pos_of_mem hx
      rw [upI_len] at this
      omega
    have hperm : l.Perm (upI n) := by
      rw [List.perm_iff_count]
      intro a
      rw [h3.count, (upI_nodup n).count]
      by_cases ha : a ∈ l
      · rw [if_pos ha, if_pos (hsub a ha)]
      · rw [if_neg ha, if_neg (fun h => ha (hsup a h))]
    have hps : (srt l).Perm (upI n) := (List.mergeSort_perm l _).trans hperm
    refine hps.eq_of_pairwise (le := fun x y => decide (x ≤ y) = true) (fun a b _ _ h1 h2 => by simp at h1 h2; omega) ?_ (upI_sorted n)
    exact List.pairwise_mergeSort (fun a b c h1 h2 => by simp at h1 h2 ⊢; omega) (fun a b => by simp; omega) l
def sumI (l : List Int) : Int := l.foldr (· + ·) 0
end Go.Proofs.Ytmomjannlnafcaa.Abs
namespace Go.Proofs.Ytmomjannlnafcaa.Abs
set_option linter.unusedSimpArgs false
set_option linter.unusedVariables false
open Go.RowKit
open Go.Proofs.Ytmomjannlnafcaa.Sim
open Go.Proofs
/-- Which numbers below n have come up. -/
def metL (l : List Int) (n : Nat) : List Bool := (List.range n).map fun (i : Nat) => decide ((i : Int) ∈ l)
theorem metL_len (l : List Int) (n : Nat) : (metL l n).length = n := by simp [metL]
theorem metL_get {l : List Int} {n i : Nat} (h : i < n) : (metL l n).getD i false = decide ((i : Int) ∈ l) := by simp [metL, h]
theorem metL_set {l : List Int} {n i : Nat} (h : i < n) : (metL l n).set i true = metL (l ++ [(i : Int)]) n := by
  apply List.ext_getElem?
  intro k
  rw [List.getElem?_set]
  by_cases hk : i = k
  · subst hk; simp [metL, h]
  · simp only [if_neg hk, metL, List.getElem?_map]
    by_cases hkn : k < n
    · simp [List.getElem?_range hkn]; omega
    · simp [List.getElem?_eq_none (show (List.range n).length ≤ k by simp; omega)]
set_option maxRecDepth 100000 in
theorem ROrder_ok {m : AM} {v : Value} {l : List Int} (n : Nat) (hl : Ints m v l) (hn : n ≤ 100000) (hlen : l.length ≤ 9223372036854775807) {b : Bool} (hb : orderB l n = b) : ACall Try.prog 55 #[v, .int .i64 (n : Nat)] m (Ret (.bool b) m) := by
  subst hb
  obtain ⟨a, o, h1, h2, h3⟩ := hl
  refine ACall.start Try.func55 rfl rfl ?_
  (repeat (first | (with_reducible refine AWo.cons ?_) | ((with_reducible refine Step.id ?_); first | ((with_reducible apply Step.move); exact rfl; exact rfl) | ((with_reducible apply Step.assign); exact rfl; exact rfl) | ((with_reducible apply Step.len); exact rfl; (focus (assumption)); (focus (decide +kernel)); exact rfl) | ((with_reducible apply Step.make1 0); exact rfl; exact rfl; exact rfl; exact el84; (focus (omega)); exact rfl; (focus (first | (simp only [List.nil_append, List.cons_append, List.set_cons_zero, List.set_cons_succ, iv_set, bv_set, iv_rep, bv_rep]; done) | (simp only [List.nil_append, List.cons_append, List.set_cons_zero, List.set_cons_succ, iv_set, bv_set, iv_rep, bv_rep]; rfl) | rfl)))) | (with_reducible refine AWo.nil ?_) | ((with_reducible apply AW.seq)) | ((with_reducible apply Then.n)) | ((with_reducible apply AW.regL)) | ((with_reducible apply AW.block))))
  refine AW.loopT (fun r t L => ∃ k : Nat, r = l.length - k ∧ k ≤ l.length ∧ (∀ x ∈ l.take k, 0 ≤ x ∧ x < n) ∧ (l.take k).Nodup ∧ L = [some { cells := bv (metL (l.take k) n) }] ∧
    t = [(0, v), (1, .int .i64 (n : Nat)), (5, .slice (some ⟨m.length + 0, 0, none⟩) n n), (10, v), (11, .int .i64 (l.length : Nat)), (12, .int .i64 (k : Nat))]) ⟨_, _, _, (Or.inl ⟨rfl, (by repeat (first | exact trivial | (refine And.intro rfl ?_)))⟩), 0, rfl, Nat.zero_le _, by simp, by simp, by simp [metL, bv, List.map_const'], rfl⟩ ?_
  rintro r t L ⟨k, rfl, hk, hin, hnd, rfl, rfl⟩
  rcases Nat.lt_or_ge k l.length with hlt | hge
  · have ts := take_snoc l k 0 hlt
    have hmem : l.getD k 0 ∈ l := by simp [hlt]
    have r1 := h3 k hlt
    have bad : (¬ (0 ≤ l.getD k 0 ∧ l.getD k 0 < n)) ∨ l.getD k 0 ∈ l.take k → orderB l n = false := fun h => by
      rw [Bool.eq_false_iff]
      intro e
      obtain ⟨o1, o2, o3⟩ := orderB_iff.1 e
      rcases h with h | h
      · exact h (o2 _ hmem)
      · have : (l.take (k + 1)).Nodup := o3.sublist (List.take_sublist _ _)
        rw [ts, List.nodup_append] at this
        exact this.2.2 _ h _ (by simp) rfl
    generalize hx : l.getD k 0 = x at *
    by_cases c1 : x < 0
    · (repeat (first | (with_reducible refine AWo.cons ?_) | ((with_reducible refine Step.id ?_); first | ((with_reducible apply Step.gdF); exact rfl; exact rfl; (focus (first | rfl | (simp only [decide_eq_true_eq, decide_eq_false_iff_not, Bool.not_eq_true', Bool.not_eq_false', Bool.not_true, Bool.not_false]; first | assumption | omega)))) | ((with_reducible apply Step.move); exact rfl; exact rfl) | ((with_reducible apply Step.assign); exact rfl; exact rfl) | ((with_reducible apply Step.load); exact rfl; (focus (decide +kernel)); exact rfl; (focus (exact Rd.old _ (by assumption)))) | ((with_reducible apply Step.ix1); exact rfl; (focus (assumption)); exact rfl; (focus (decide +kernel)); exact rfl; (focus (omega))) | ((with_reducible apply Step.lss); exact rfl; exact rfl; exact rfl) | ((with_reducible apply Step.pickT); exact rfl; exact rfl; exact rfl; exact rfl; (focus (first | rfl | (simp only [decide_eq_true_eq, decide_eq_false_iff_not, Bool.not_eq_true', Bool.not_eq_false', Bool.not_true, Bool.not_false]; first | assumption | omega))))) | (with_reducible refine AWo.nil ?_) | ((with_reducible apply AW.seq)) | ((with_reducible apply Then.n)) | ((with_reducible apply AW.regL)) | ((with_reducible apply AW.block)) | ((with_reducible apply AW.skip)) | ((with_reducible apply AW.condT); exact rfl; (focus (first | rfl | (simp only [decide_eq_true_eq, decide_eq_false_iff_not, Bool.not_eq_true', Bool.not_eq_false', Bool.not_true, Bool.not_false]; first | assumption | omega))))))
      (refine AW.retD (l := [(4, _)]) (by repeat (first | exact trivial | (refine And.intro ⟨rfl, by (exact .bool _)⟩ ?_))) ?_; (repeat (first | refine Then.r ?_ | refine InBlk.r ?_)))
      exact ⟨_, rfl, by rw [bad (.inl (by omega))], rfl⟩
    · by_cases c2 : (n : Int) ≤ x
      · (repeat (first | (with_reducible refine AWo.cons ?_) | ((with_reducible refine Step.id ?_); first | ((with_reducible apply Step.gdT); exact rfl; exact rfl; (focus ((simp only [decide_eq_true_eq, decide_eq_false_iff_not, Bool.not_eq_true', Bool.not_eq_false', Bool.not_true, Bool.not_false]; first | assumption | omega)))) | ((with_reducible apply Step.gdF); exact rfl; exact rfl; (focus ((simp only [decide_eq_true_eq, decide_eq_false_iff_not, Bool.not_eq_true', Bool.not_eq_false', Bool.not_true, Bool.not_false]; first | assumption | omega)))) | ((with_reducible apply Step.move); exact rfl; exact rfl) | ((with_reducible apply Step.assign); exact rfl; exact rfl) | ((with_reducible apply Step.load); exact rfl; (focus (decide +kernel)); exact rfl; (focus (exact Rd.old _ (by assumption)))) | ((with_reducible apply Step.ix1); exact rfl; (focus (assumption)); exact rfl; (focus (decide +kernel)); exact rfl; (focus (omega))) | ((with_reducible apply Step.lss); exact rfl; exact rfl; exact rfl) | ((with_reducible apply Step.geq); exact rfl; exact rfl; exact rfl) | ((with_reducible apply Step.pickT); exact rfl; exact rfl; exact rfl; exact rfl; (focus ((simp only [decide_eq_true_eq, decide_eq_false_iff_not, Bool.not_eq_true', Bool.not_eq_false', Bool.not_true, Bool.not_false]; first | assumption | omega)))) | ((with_reducible apply Step.pickF); exact rfl; exact rfl; exact rfl; exact rfl; (focus ((simp only [decide_eq_true_eq, decide_eq_false_iff_not, Bool.not_eq_true', Bool.not_eq_false', Bool.not_true, Bool.not_false]; first | assumption | omega))))) | (with_reducible refine AWo.nil ?_) | ((with_reducible apply AW.seq)) | ((with_reducible apply Then.n)) | ((with_reducible apply AW.regL)) | ((with_reducible apply AW.block)) | ((with_reducible apply AW.skip)) | ((with_reducible apply AW.condT); exact rfl; (focus (first | rfl | (simp only [decide_eq_true_eq, decide_eq_false_iff_not, Bool.not_eq_true', Bool.not_eq_false', Bool.not_true, Bool.not_false]; first | assumption | omega))))))
        (refine AW.retD (l := [(4, _)]) (by repeat (first | exact trivial | (refine And.intro ⟨rfl, by (exact .bool _)⟩ ?_))) ?_; (repeat (first | refine Then.r ?_ | refine InBlk.r ?_)))
        exact ⟨_, rfl, by rw [bad (.inl (by omega))], rfl⟩
      · obtain ⟨i, rfl⟩ : ∃ i : Nat, x = (i : Int) := ⟨x.toNat, by omega⟩
        have hi : i < n := by omega
        have hg := bv_get (l := metL (l.take k) n) (k := i) (by rw [metL_len]; exact hi)
        rw [metL_get hi] at hg
        by_cases c3 : (i : Int) ∈ l.take k
        · rw [decide_eq_true c3] at hg
          (repeat (first | (with_reducible refine AWo.cons ?_) | ((with_reducible refine Step.id ?_); first | ((with_reducible apply Step.gdT); exact rfl; exact rfl; (focus (first | rfl | (simp only [decide_eq_true_eq, decide_eq_false_iff_not, Bool.not_eq_true', Bool.not_eq_false', Bool.not_true, Bool.not_false]; first | assumption | omega)))) | ((with_reducible apply Step.move); exact rfl; exact rfl) | ((with_reducible apply Step.assign); exact rfl; exact rfl) | ((with_reducible apply Step.load); exact rfl; (focus (decide +kernel)); exact rfl; (focus (first | exact Rd.new rfl hg | exact Rd.old _ (by assumption)))) | ((with_reducible apply Step.ix1z); exact rfl; (focus (exact Sl.mk (by omega))); exact rfl; (focus (decide +kernel)); exact rfl; (focus (omega))) | ((with_reducible apply Step.ix1); exact rfl; (focus (assumption)); exact rfl; (focus (decide +kernel)); exact rfl; (focus (omega))) | ((with_reducible apply Step.lss); exact rfl; exact rfl; exact rfl) | ((with_reducible apply Step.geq); exact rfl; exact rfl; exact rfl) | ((with_reducible apply Step.pickF); exact rfl; exact rfl; exact rfl; exact rfl; (focus (first | rfl | (simp only [decide_eq_true_eq, decide_eq_false_iff_not, Bool.not_eq_true', Bool.not_eq_false', Bool.not_true, Bool.not_false]; first | assumption | omega))))) | (with_reducible refine AWo.nil ?_) | ((with_reducible apply AW.seq)) | ((with_reducible apply Then.n)) | ((with_reducible apply AW.regL)) | ((with_reducible apply AW.block)) | ((with_reducible apply AW.skip)) | ((with_reducible apply AW.condT); exact rfl; (focus (first | rfl | (simp only [decide_eq_true_eq, decide_eq_false_iff_not, Bool.not_eq_true', Bool.not_eq_false', Bool.not_true, Bool.not_false]; first | assumption | omega))))))
          (refine AW.retD (l := [(4, _)]) (by repeat (first | exact trivial | (refine And.intro ⟨rfl, by (exact .bool _)⟩ ?_))) ?_; (repeat (first | refine Then.r ?_ | refine InBlk.r ?_)))
          exact ⟨_, rfl, by rw [bad (.inr c3)], rfl⟩
        · rw [decide_eq_false c3] at hg
          have hs := metL_set (l := l.take k) hi
          (repeat (first | (with_reducible refine AWo.cons ?_) | ((with_reducible refine Step.id ?_); first | ((with_reducible apply Step.gdT); exact rfl; exact rfl; (focus (first | rfl | (simp only [decide_eq_true_eq, decide_eq_false_iff_not, Bool.not_eq_true', Bool.not_eq_false', Bool.not_true, Bool.not_false]; first | assumption | omega)))) | ((with_reducible apply Step.move); exact rfl; exact rfl) | ((with_reducible apply Step.assign); exact rfl; exact rfl) | ((with_reducible apply Step.load); exact rfl; (focus (decide +kernel)); exact rfl; (focus (first | exact Rd.new rfl hg | exact Rd.old _ (by assumption)))) | ((with_reducible apply Step.ix1z); exact rfl; (focus (exact Sl.mk (by omega))); exact rfl; (focus (decide +kernel)); exact rfl; (focus (omega))) | ((with_reducible apply Step.ix1); exact rfl; (focus (assumption)); exact rfl; (focus (decide +kernel)); exact rfl; (focus (omega))) | ((with_reducible apply Step.lss); exact rfl; exact rfl; exact rfl) | ((with_reducible apply Step.geq); exact rfl; exact rfl; exact rfl) | ((with_reducible apply Step.pickF); exact rfl; exact rfl; exact rfl; exact rfl; (focus (first | rfl | (simp only [decide_eq_true_eq, decide_eq_false_iff_not, Bool.not_eq_true', Bool.not_eq_false', Bool.not_true, Bool.not_false]; first | assumption | omega))))) | (with_reducible refine AWo.nil ?_) | ((with_reducible apply AW.seq)) | ((with_reducible apply Then.n)) | ((with_reducible apply AW.regL)) | ((with_reducible apply AW.block)) | ((with_reducible apply AW.skip)) | ((with_reducible apply AW.condT); exact rfl; (focus ((simp only [decide_eq_true_eq, decide_eq_false_iff_not, Bool.not_eq_true', Bool.not_eq_false', Bool.not_true, Bool.not_false]; first | assumption | omega)))) | ((with_reducible apply AW.condF); exact rfl; (focus (rfl)))))
          ((with_reducible apply Step.store (k := 0)); exact rfl; exact rfl; exact rfl; exact rfl; (focus (decide +kernel)); exact rfl; exact rfl; (focus (simp [bv, metL]; omega)); (focus (first | (simp only [List.nil_append, List.cons_append, List.set_cons_zero, List.set_cons_succ, iv_set, bv_set, iv_rep, bv_rep]; done) | (simp only [List.nil_append, List.cons_append, List.set_cons_zero, List.set_cons_succ, iv_set, bv_set, iv_rep, bv_rep]; rfl) | rfl)))
          (repeat (first | (with_reducible refine AWo.cons ?_) | ((with_reducible refine Step.id ?_); first | ((with_reducible apply Step.move); exact rfl; exact rfl) | ((with_reducible apply Step.add); exact rfl; exact rfl; (focus (omega)); exact rfl)) | (with_reducible refine AWo.nil ?_) | ((with_reducible apply Then.n)) | ((with_reducible apply AW.regL)) | ((with_reducible apply InBlk.n))))
          exact ⟨_, _, _, by omega, (Or.inl ⟨rfl, (by repeat (first | exact trivial | (refine And.intro rfl ?_)))⟩), k + 1, rfl, by omega, by rw [ts]; intro y hy; rcases List.mem_append.1 hy with h | h; exact hin y h; simp at h; subst h; omega, by rw [ts, List.nodup_append]; exact ⟨hnd, by simp, fun a ha b hb => by simp at hb; subst hb; exact fun e => c3 (e ▸ ha)⟩, by rw [hs, ← ts], rfl⟩
  · (repeat (first | (with_reducible refine AWo.cons ?_) | ((with_reducible refine Step.id ?_); first | ((with_reducible apply Step.move); exact rfl; exact rfl) | ((with_reducible apply Step.assign); exact rfl; exact rfl) | ((with_reducible apply Step.lss); exact rfl; exact rfl; exact rfl) | ((with_reducible apply Step.eql); exact rfl; exact rfl; exact rfl) | ((with_reducible apply Step.len); exact rfl; (focus (assumption)); (focus (decide +kernel)); exact rfl)) | (with_reducible refine AWo.nil ?_) | ((with_reducible apply AW.seq)) | ((with_reducible apply Then.n)) | ((with_reducible apply AW.regL)) | ((with_reducible apply AW.exit)) | ((with_reducible apply InBlk.hit)) | ((with_reducible apply Then.e)) | ((with_reducible apply AW.condF); exact rfl; (focus ((simp only [decide_eq_true_eq, decide_eq_false_iff_not, Bool.not_eq_true', Bool.not_eq_false', Bool.not_true, Bool.not_false]; first | assumption | omega))))))
    (refine AW.retD (l := [(4, _)]) (by repeat (first | exact trivial | (refine And.intro ⟨rfl, by (exact .bool _)⟩ ?_))) ?_; (repeat (first | refine Then.r ?_ | refine InBlk.r ?_)))
    rw [List.take_of_length_le hge] at hin hnd
    refine ⟨_, rfl, ?_, rfl⟩
    by_cases hn' : l.length = n
    · rw [orderB_iff.2 ⟨hn', hin, hnd⟩, decide_eq_true (by omega)]
    · have : orderB l n = false := by rw [Bool.eq_false_iff]; exact fun e => hn' (orderB_iff.1 e).1
      rw [this, decide_eq_false (by omega)]
end Go.Proofs.Ytmomjannlnafcaa.Abs
namespace Go.Proofs.Ytmomjannlnafcaa.Abs
set_option linter.unusedSimpArgs false
set_option linter.unusedVariables false
open Go.RowKit
open Go.Proofs.Ytmomjannlnafcaa.Sim
open Go.ChangeShapes Go.WideShapes Go.Deep
/-- An argument with the cells that it shows. -/
abbrev AR := Value × List Value
def mkP : AR → Option Sim.Place
  | (.slice (some a) n cap, _) => some ⟨a.block, a.off, cap - n⟩
  | _ => none
section
variable {H : Type} {enc : TypeId × Value → H} {P : Program} {w : World} {base : Nat} {spare : Nat → Bool} {held : Bool}
theorem ok_slice {r : Reach} {b0 : Nat} {T e : TypeId} {a : Option Addr} {n c : Nat} (ht : P.underlying T = some (.slice e)) (h : Value.okWide P w r b0 T (.slice a n c)) : (a = none ∧ n = 0 ∧ c = 0) ∨ ∃ b o, a = some ⟨b, o, none⟩ ∧ n ≤ c ∧ b < w.heap.size := by
  simp only [Value.okWide, ht, Cell.okWide, Cell.ok] at h
  cases a with
  | none =>
    cases n <;> cases c <;> simp_all
  | some x =>
    obtain ⟨h1, _, h3⟩ := h
    obtain ⟨_, hs, row, cells, hsh, _⟩ := h3
    obtain ⟨b, o, s⟩ := x
    simp only at hs
    subst hs
    refine .inr ⟨b, o, rfl, h1, ?_⟩
    simp only [World.shape?] at hsh
    rcases Nat.lt_or_ge b w.heap.size with hlt | hge
    · exact hlt
    · rw [Array.getElem?_eq_none hge] at hsh; cases hsh
theorem open_slice_fields {t e : TypeId} {fs : Array Field} {fuel : Nat} {cs : List Value} {x : DataW H × List MemPlace} (ht : P.underlying t = some (.slice e)) (he : P.underlying e = some (.struct fs))
    (hone : oneCellFields P fs = true) (hC : P.cellsOf e = fs.size) (h : DataW.trod enc P w base spare held fuel t cs = some x) :
    (cs = [.slice none 0 0] ∧ x = (.nil, [])) ∨
    ∃ (a : Addr) (len cap m : Nat) (D : Nat → DataW H) (Pl : Nat → List MemPlace), cs = [.slice (some a) len cap] ∧ base ≤ a.block ∧ len ≤ cap ∧ cap ≤ maxLen ∧ m = (if spare a.block then cap else len) ∧
      x = (.slice ((List.range len).map D) ((List.range (m - len)).map fun j => D (len + j)), MemPlace.row a (m * fs.size) ++ (List.range m).flatMap Pl) ∧
      ∀ i, i < m → ∃ (ys : List (DataW H × List MemPlace)) (n : Nat), D i = .agg (ys.map (·.1)) ∧ Pl i = ys.flatMap (·.2) ∧ ys.length = fs.size ∧
        ∀ (j : Nat) (f : Field), fs[j]? = some f → ∃ (v : Value) (y : DataW H × List MemPlace), w.cell? (a.add (i * fs.size + j)) = some v ∧ ys[j]? = some y ∧ DataW.trod enc P w base spare held n f.type [v] = some y := by
  rcases open_slice ht h with h0 | ⟨a, len, cap, m, n, D, Pl, hcs, hb, hl, hm, hmm, hx, hi⟩
  · exact .inl h0
  · refine .inr ⟨a, len, cap, m, D, Pl, hcs, hb, hl, hm, hmm, by rw [hC] at hx; exact hx, fun i him => ?_⟩
    obtain ⟨cs', hc, ht'⟩ := hi i him
    rw [hC] at hc
    obtain ⟨ys, n', hn', hy, hlen, hyl, hf⟩ := DataW.trod_struct he ht'
    obtain ⟨_, hcl, hat⟩ := World.cells?_some hc
    simp only [Prod.mk.injEq] at hy
    refine ⟨ys, n', hy.1, hy.2, hyl, fun j f hj => ?_⟩
    obtain ⟨ho, hk⟩ := hone_of hone j f hj
    have hjl : j < fs.size := (Array.getElem?_eq_some_iff.1 hj).1
    have hcell := hat j hjl
    have hv : cs'[j]? = some (cs'[j]'(by omega)) := List.getElem?_eq_getElem (by omega)
    have h1 := hf j f hj
    rw [ho, hk] at h1
    have hone' : (cs'.drop j).take 1 = [cs'[j]'(by omega)] := by
      rw [List.drop_eq_getElem_cons (by omega)]
      rfl
    rw [hone'] at h1
    have hys : ys[j]? = some (ys[j]'(by omega)) := List.getElem?_eq_getElem (by omega)
    refine ⟨_, _, ?_, hys, h1.trans hys⟩
    rw [← Go.Deep.add_add, hcell, hv]
end
end Go.Proofs.Ytmomjannlnafcaa.Abs
namespace Go.Proofs.Ytmomjannlnafcaa.Abs
set_option linter.unusedSimpArgs false
set_option linter.unusedVariables false
open Go.RowKit
open Go.Proofs.Ytmomjannlnafcaa.Sim
open Go.Proofs
theorem awake_ok {m : AM} : ACall Try.prog 24 #[] m (Ret (.bool true) m) :=
  (ACall.of_calls (by kernel_rfl) (by kernel_rfl) fun w => closed_call fit (n := 400) (by kernel_rfl) (by kernel_rfl) (by kernel_rfl) w).mono fun _ _ ⟨a, b⟩ => ⟨a.symm, b.symm⟩
end Go.Proofs.Ytmomjannlnafcaa.Abs
namespace Go.Proofs.Ytmomjannlnafcaa.Abs
set_option linter.unusedSimpArgs false
set_option linter.unusedVariables false
open Go.RowKit
open Go.Proofs.Ytmomjannlnafcaa.Sim
/-- The memory in which block a holds the row l. -/
def St (m : AM) (a : Nat) (kd : Kind) (s : Nat) (l : List Int) : AM := m.set a (some { cells := iv l, kind := kd, size := s })
section
variable {m : AM} {a s : Nat} {kd : Kind} {l k : List Int}
theorem St.len : (St m a kd s l).length = m.length := by simp [St]
theorem St.get (h : a < m.length) : (St m a kd s l)[a]? = some (some { cells := iv l, kind := kd, size := s }) := by simp [St, h]
theorem St.ne {b : Nat} (h : b ≠ a) : (St m a kd s l)[b]? = m[b]? := by simp [St, List.getElem?_set_ne (Ne.symm h)]
theorem St.set : (St m a kd s l).set a (some { cells := iv k, kind := kd, size := s }) = St m a kd s k := by simp [St]
theorem St.st : St (St m a kd s l) a kd s k = St m a kd s k := by simp [St]
theorem St.rd {o : Nat} (h : a < m.length) (ho : o < l.length) : Rd (St m a kd s l) a o (.int .i64 (l.getD o 0)) := ⟨_, St.get h, iv_get ho⟩
theorem St.self (h : m[a]? = some (some { cells := iv l, kind := kd, size := s })) : St m a kd s l = m := by
  apply List.ext_getElem?
  intro i
  by_cases e : i = a
  · subst e; rw [St.get (List.getElem?_eq_some_iff.1 h).1, h]
  · rw [St.ne e]
theorem St.rd_ne {b o : Nat} {v : Value} (h : Rd m b o v) (e : b ≠ a) : Rd (St m a kd s l) b o v := by
  obtain ⟨x, h1, h2⟩ := h
  exact ⟨x, by rw [St.ne e]; exact h1, h2⟩
theorem St.rdl_ne {b o : Nat} {c : List Value} (h : RdL m b o c) (e : b ≠ a) : RdL (St m a kd s l) b o c := by
  obtain ⟨x, h1, h2⟩ := h
  exact ⟨x, by rw [St.ne e]; exact h1, h2⟩
end
/-- Behind a piece of code one goes on from what holds on all ways. -/
theorem AW.join {P : Program} {nt : Nat} {m0 m : AM} {t : Fm} {c : Code} {K : Fm → AM → Prop} {Q : AEx → Fm → AM → Prop} (Mid : Fm → AM → Prop) (h : AW P nt m0 c t m (Then Mid Q)) (h2 : ∀ t m, Mid t m → K t m) : AW P nt m0 c t m (Then K Q) :=
  h.mono fun e t m => by cases e <;> first | exact h2 t m | exact id
section
variable {P : Program} {nt : Nat} {ops : Array Oper} {t : Fm} {m : AM} {K : Fm → AM → Prop} {d T : Nat} {p : String} {af : Array Edge}
theorem Step.storeR {x y : Operand} {ty : TypeId} {a s o : Nat} {kd : Kind} {l l' : List Int} {v : Int} (hx : evo t x = some (.pointer (some ⟨a, o, none⟩))) (hy : evo t y = some (.int .i64 v)) (hz : szB P ty = some 1) (ha : a < m.length) (hs : kd.solid = true) (ho : o < l.length)
    (hl : l.set o v = l') (hK : K t (St m a kd s l')) : Step P nt ops ⟨none, .store ty x y, T, p, af, none⟩ t (St m a kd s l) K := by
  subst hl
  refine .l0 rfl rfl rfl (by simp [Op.operands, hx, hy]) (loud_of_aloud0 (v := undef) (m' := St m a kd s (l.set o v)) rfl ?_ hK)
  have hsp : splice (iv l) o [.int .i64 v] = iv (l.set o v) := by
    rw [← iv_set]
    unfold splice
    rw [List.set_eq_take_append_cons_drop]
    simp [iv_len, ho]
  simp only [aloud, evD_of hx, evD_of hy, astore, St.get ha, hz]
  rw [if_pos (by simp [hs, iv_len, Value.cells, Value.oneCell']; omega)]
  simp [St.set, hsp, Value.cells]
theorem still_under {X : TypeId} {T : TypeDesc} (hX : P.underlying X = some T) : Sim.still P (underlying X) = some T := by
  unfold underlying
  show Sim.still P (Sem.bind program _) = _
  rw [still_bind]
  simp [program, Sim.still, hX, pure]
theorem Step.conv {x : Operand} {S D : TypeId} {k ks k' : IntKind} {a b : Int} (hx : evo t x = some (.int k a)) (hS : P.underlying S = some (.int ks)) (hD : P.underlying D = some (.int k')) (hw : k'.wrap a = b) (hlt : Nat.blt d nt = true) (hK : K (put t d (.int k' b)) m) :
    Step P nt ops ⟨some d, .convert S D x, T, p, af, none⟩ t m K := by
  refine .ground rfl rfl hlt (by simp [Op.operands, hx, g1, g0]) (fun h => by simpa [aquiet] using h) ?_ (by simp [g1, g0]) hK
  subst hw
  simp only [execOp, evD_of hx, bind]
  rw [still_bind]
  unfold convert
  simp only [bind]
  rw [still_bind, still_under hS]
  simp only
  rw [still_bind, still_under hD]
  rfl
theorem u64_in {n : Int} (h : 0 ≤ n ∧ n ≤ 9223372036854775807) : IntKind.u64.wrap n = n := by
  simp only [IntKind.wrap, IntKind.signed, IntKind.bits]
  simp
  omega
/-- int to uint -/
theorem Step.toU {x : Operand} {S D : TypeId} {a : Int} (hx : evo t x = some (.int .i64 a)) (hS : P.underlying S = some (.int .i64)) (hD : P.underlying D = some (.int .u64)) (hr : 0 ≤ a ∧ a ≤ 9223372036854775807) (hlt : Nat.blt d nt = true) (hK : K (put t d (.int .u64 a)) m) :
    Step P nt ops ⟨some d, .convert S D x, T, p, af, none⟩ t m K := .conv hx hS hD (u64_in hr) hlt hK
/-- uint to int -/
theorem Step.toI {x : Operand} {S D : TypeId} {a : Int} (hx : evo t x = some (.int .u64 a)) (hS : P.underlying S = some (.int .u64)) (hD : P.underlying D = some (.int .i64)) (hr : 0 ≤ a ∧ a ≤ 9223372036854775807) (hlt : Nat.blt d nt = true) (hK : K (put t d (.int .i64 a)) m) :
    Step P nt ops ⟨some d, .convert S D x, T, p, af, none⟩ t m K := .conv hx hS hD (IntWalk.i64_in _ (by omega)) hlt hK
theorem Step.half {x y : Operand} {X Y : TypeId} {a : Int} (hx : evo t x = some (.int .u64 a)) (hy : evo t y = some (.int .u64 1)) (ha : 0 ≤ a) (hlt : Nat.blt d nt = true) (hK : K (put t d (.int .u64 (a / 2))) m) : Step P nt ops ⟨some d, .binOp .shr X x y Y, T, p, af, none⟩ t m K := by
  refine .ground rfl rfl hlt (by simp [Op.operands, hx, hy, g1, g0]) (fun h => by simp only [aquiet, evD_of hx, evD_of hy, aint, anil]; simpa [evD_of hx, evD_of hy] using h) ?_ (by simp [g1, g0]) hK
  have : a.fdiv 2 = a / 2 := Int.fdiv_eq_ediv_of_nonneg a (by omega)
  simp [execOp, eqGuard, binOp, evD_of hx, evD_of hy, Op.shift, IntKind.bits, this, bind, Sem.bind, pure, Sim.still]
section
variable {X Y : TypeId} {x y : Operand} {a b : Int} {c : Nat}
theorem Step.addE (hx : evo t x = some (.int .i64 a)) (hy : evo t y = some (.int .i64 b)) (he : a + b = ((c : Nat) : Int)) (hr : c ≤ 9223372036854775807) (hlt : Nat.blt d nt = true) (hK : K (put t d (.int .i64 ((c : Nat) : Int))) m) : Step P nt ops ⟨some d, .binOp .add X x y Y, T, p, af, none⟩ t m K := by
  rw [← he] at hK; exact .add hx hy (by omega) hlt hK
theorem Step.subE (hx : evo t x = some (.int .i64 a)) (hy : evo t y = some (.int .i64 b)) (he : a - b = ((c : Nat) : Int)) (hr : c ≤ 9223372036854775807) (hlt : Nat.blt d nt = true) (hK : K (put t d (.int .i64 ((c : Nat) : Int))) m) : Step P nt ops ⟨some d, .binOp .sub X x y Y, T, p, af, none⟩ t m K := by
  rw [← he] at hK; exact .sub hx hy (by omega) hlt hK
theorem Step.mulE (hx : evo t x = some (.int .i64 a)) (hy : evo t y = some (.int .i64 b)) (he : a * b = ((c : Nat) : Int)) (hr : c ≤ 9223372036854775807) (hlt : Nat.blt d nt = true) (hK : K (put t d (.int .i64 ((c : Nat) : Int))) m) : Step P nt ops ⟨some d, .binOp .mul X x y Y, T, p, af, none⟩ t m K := by
  rw [← he] at hK; exact .mul hx hy (by omega) hlt hK
theorem Step.halfE (hx : evo t x = some (.int .u64 a)) (hy : evo t y = some (.int .u64 1)) (he : a / 2 = ((c : Nat) : Int)) (hr : 0 ≤ a) (hlt : Nat.blt d nt = true) (hK : K (put t d (.int .u64 ((c : Nat) : Int))) m) : Step P nt ops ⟨some d, .binOp .shr X x y Y, T, p, af, none⟩ t m K := by
  rw [← he] at hK; exact .half hx hy hr hlt hK
end
theorem Sl.cells {v : Value} {a o n : Nat} (h : Sl v a o n) : v.cells = #[v] ∧ v.oneCell' = true := by
  rcases h with ⟨rfl, _⟩ | ⟨c, _, rfl⟩ | ⟨_, o', k, rfl⟩ <;> exact ⟨rfl, rfl⟩
/-- A new variable with a slice. -/
theorem Step.boxV {x : Operand} {ty : TypeId} {v : Value} {M L L' : AM} (k : Nat) (hk : L.length = k) (hx : evo t x = some v) (hv : v.cells = #[v] ∧ v.oneCell' = true) (hlt : Nat.blt d nt = true) (hL : L ++ [some { cells := [v] }] = L') (hK : K (put t d (.pointer (some ⟨M.length + k, 0, none⟩))) (M ++ L')) :
    Step P nt ops ⟨some d, .box ty x, T, p, af, none⟩ t (M ++ L) K :=
  .box k hk hx (by rw [hv.1]; simp [hv.2]) hlt (by rw [hv.1]; exact hL) hK
/-- A call for what it does to the memory. -/
theorem Step.callM {args : Array Operand} {tys : Array TypeId} {g : FuncId} {vs : List Value} {fn : Func} {b : Code} {m m' : AM} {r : Value} (hP : Fit P) (ha : evL t args.toList = some vs) (hf : P.funcs[g]? = some fn) (hb : fn.body = some b)
    (hlt : Nat.blt d nt = true) (h : ACall P g vs.toArray m (Ret r m')) (hK : K (put t d r) m') : Step P nt ops ⟨some d, .call ⟨.value (.func g), args, tys⟩, T, p, af, none⟩ t m K :=
  .callF hP ha hf hb hlt h (by rintro v m1 ⟨rfl, rfl⟩; exact hK)
end
end Go.Proofs.Ytmomjannlnafcaa.Abs
namespace Go.Proofs.Ytmomjannlnafcaa.Abs
set_option linter.unusedSimpArgs false
set_option linter.unusedVariables false
/-- A total order. -/
structure TO (le : Int → Int → Bool) : Prop where
  to : ∀ a b, (le a b || le b a) = true
  tr : ∀ a b c, le a b = true → le b c = true → le a c = true
  an : ∀ a b, le a b = true → le b a = true → a = b
def ms (le : Int → Int → Bool) (l : List Int) : List Int := l.mergeSort le
section
variable {le : Int → Int → Bool} {l p A B A1 A2 B1 B2 : List Int}
theorem ms_len : (ms le l).length = l.length := by simp [ms]
theorem ms_perm : (ms le l).Perm l := List.mergeSort_perm l le
theorem ms_mem {x : Int} : x ∈ ms le l ↔ x ∈ l := ms_perm.mem_iff
def Srt (le : Int → Int → Bool) (l : List Int) : Prop := l.Pairwise (fun a b => le a b = true)
theorem ms_srt (h : TO le) : Srt le (ms le l) := List.pairwise_mergeSort h.tr h.to l
theorem ms_of (h : TO le) (hp : p.Perm l) (hs : Srt le p) : ms le l = p :=
  List.Perm.eq_of_pairwise (le := fun a b => le a b = true) (fun a b _ _ h1 h2 => h.an a b h1 h2) (ms_srt h) hs (ms_perm.trans hp.symm)
theorem ms_self (h : TO le) (hs : Srt le l) : ms le l = l := ms_of h (List.Perm.refl _) hs
theorem TO.of_not (h : TO le) {a b : Int} (hf : le a b = false) : le b a = true := by
  have := h.to a b
  rw [hf] at this; simpa using this
theorem ms_cut (h : TO le) (hA : Srt le (A1 ++ A2)) (hB : Srt le (B1 ++ B2)) (h1 : ∀ x ∈ A1, ∀ y ∈ B2, le x y = true) (h2 : ∀ y ∈ B1, ∀ x ∈ A2, le y x = true) : ms le ((A1 ++ A2) ++ (B1 ++ B2)) = ms le (A1 ++ B1) ++ ms le (A2 ++ B2) := by
  obtain ⟨_, _, a3⟩ := List.pairwise_append.1 hA
  obtain ⟨_, _, b3⟩ := List.pairwise_append.1 hB
  refine ms_of h ?_ ?_
  · refine (List.Perm.append ms_perm ms_perm).trans ?_
    simp only [List.append_assoc]
    refine List.Perm.append_left _ ?_
    rw [← List.append_assoc, ← List.append_assoc]
    exact List.Perm.append_right _ List.perm_append_comm
  · refine List.pairwise_append.2 ⟨ms_srt h, ms_srt h, fun x hx y hy => ?_⟩
    rw [ms_mem, List.mem_append] at hx hy
    rcases hx with hx | hx <;> rcases hy with hy | hy
    · exact a3 x hx y hy
    · exact h1 x hx y hy
    · exact h2 x hx y hy
    · exact b3 x hx y hy
theorem srt_get (hs : Srt le l) {i j : Nat} (hij : i < j) (hj : j < l.length) : le (l.getD i 0) (l.getD j 0) = true := by
  have := List.pairwise_iff_getElem.1 hs i j (by omega) hj hij
  simpa [show i < l.length by omega, hj] using this
theorem srt_getE (h : TO le) (hs : Srt le l) {i j : Nat} (hij : i ≤ j) (hj : j < l.length) : le (l.getD i 0) (l.getD j 0) = true := by
  rcases Nat.lt_or_eq_of_le hij with h1 | rfl
  · exact srt_get hs h1 hj
  · have := h.to (l.getD i 0) (l.getD i 0); simpa using this
theorem mem_take_get {n : Nat} {x : Int} (h : x ∈ l.take n) : ∃ i, i < n ∧ i < l.length ∧ x = l.getD i 0 := by
  obtain ⟨i, hi, rfl⟩ := List.getElem_of_mem h
  have hi' : i < n ∧ i < l.length := by simp only [List.length_take] at hi; omega
  exact ⟨i, hi'.1, hi'.2, by simp [hi'.2]⟩
theorem mem_drop_get {n : Nat} {x : Int} (h : x ∈ l.drop n) : ∃ i, n ≤ i ∧ i < l.length ∧ x = l.getD i 0 := by
  obtain ⟨i, hi, rfl⟩ := List.getElem_of_mem h
  simp at hi
  exact ⟨n + i, by omega, by omega, by simp [show n + i < l.length by omega]⟩
/-- Where the search of the symmetric merge ends, the halves fall apart. -/
theorem sym_cut (h : TO le) (hA : Srt le A) (hB : Srt le B) {hh q : Nat} (hq1 : hh - B.length ≤ q) (hq2 : q ≤ min A.length hh)
    (h1 : ∀ c, hh - B.length ≤ c → c < q → le (A.getD c 0) (B.getD (hh - 1 - c) 0) = true) (h2 : ∀ c, q ≤ c → c < min A.length hh → le (A.getD c 0) (B.getD (hh - 1 - c) 0) = false) :
    ms le (A ++ B) = ms le (A.take q ++ B.take (hh - q)) ++ ms le (A.drop q ++ B.drop (hh - q)) := by
  have e := ms_cut (le := le) (A1 := A.take q) (A2 := A.drop q) (B1 := B.take (hh - q)) (B2 := B.drop (hh - q)) h (by rwa [List.take_append_drop]) (by rwa [List.take_append_drop])
    (fun x hx y hy => by
      obtain ⟨i, i1, i2, rfl⟩ := mem_take_get hx
      obtain ⟨k, k1, k2, rfl⟩ := mem_drop_get hy
      have g := h1 (q - 1) (by omega) (by omega)
      rw [show hh - 1 - (q - 1) = hh - q by omega] at g
      exact h.tr _ _ _ (srt_getE h hA (show i ≤ q - 1 by omega) (by omega)) (h.tr _ _ _ g (srt_getE h hB k1 k2)))
    (fun y hy x hx => by
      obtain ⟨k, k1, k2, rfl⟩ := mem_take_get hy
      obtain ⟨i, i1, i2, rfl⟩ := mem_drop_get hx
      have g := h.of_not (h2 q (Nat.le_refl _) (by omega))
      exact h.tr _ _ _ (srt_getE h hB (show k ≤ hh - 1 - q by omega) (by omega)) (h.tr _ _ _ g (srt_getE h hA i1 i2)))
  rwa [List.take_append_drop, List.take_append_drop] at e
/-- One element into a sorted list. -/
theorem ms_one (h : TO le) {x : Int} {S1 S2 : List Int} (hS : Srt le (S1 ++ S2)) (h1 : ∀ y ∈ S1, le y x = true) (h2 : ∀ y ∈ S2, le x y = true) (hp : (S1 ++ S2).Perm l) : ms le (l ++ [x]) = S1 ++ x :: S2 := by
  obtain ⟨a1, a2, a3⟩ := List.pairwise_append.1 hS
  refine ms_of h ?_ ?_
  · refine List.Perm.trans ?_ (List.Perm.append_right [x] hp)
    exact (List.perm_middle).trans (by exact (List.perm_append_singleton x (S1 ++ S2)).symm)
  · refine List.pairwise_append.2 ⟨a1, List.pairwise_cons.2 ⟨h2, a2⟩, fun y hy z hz => ?_⟩
    rcases List.mem_cons.1 hz with rfl | hz
    · exact h1 y hy
    · exact a3 y hy z hz
end
theorem getD_l {l k : List Int} {i : Nat} (h : i < l.length) : (l ++ k).getD i 0 = l.getD i 0 := by simp [List.getElem?_append_left h]
theorem getD_r {l k : List Int} {i j : Nat} (h : i = l.length + j) : (l ++ k).getD i 0 = k.getD j 0 := by
  subst h; simp [List.getElem?_append_right]
theorem set_r {l k : List Int} {i j : Nat} {x : Int} (h : i = l.length + j) : (l ++ k).set i x = l ++ k.set j x := by
  subst h; simp
/-- Two places exchanged. -/
def swp (l : List Int) (i j : Nat) : List Int := (l.set i (l.getD j 0)).set j (l.getD i 0)
theorem swp_adj {p q : List Int} {x y : Int} {i : Nat} (h : i = p.length) : swp (p ++ x :: y :: q) i (i + 1) = p ++ y :: x :: q := by
  subst h
  simp [swp, List.set_append]
theorem swp_comm (l : List Int) (i j : Nat) (h : i ≠ j) : swp l i j = swp l j i := by
  unfold swp
  rw [List.set_comm _ _ h]
end Go.Proofs.Ytmomjannlnafcaa.Abs
namespace Go.Proofs.Ytmomjannlnafcaa.Abs
set_option linter.unusedSimpArgs false
set_option linter.unusedVariables false
open Go.RowKit
open Go.Proofs.Ytmomjannlnafcaa.Sim
open Go.Proofs
theorem un3i : Try.prog.underlying 3 = some (.int .i64) := by kernel_rfl
theorem un46u : Try.prog.underlying 46 = some (.int .u64) := by kernel_rfl
/-- A comparison that reads the row's memory, whatever the row is. -/
structure CmpOk (m : AM) (r s : Nat) (kd : Kind) (c : Int → Int → Int) (p : Int → Prop) (g : FuncId) (cap : Array Value) : Prop where
  hr : r < m.length
  hkd : kd.solid = true
  call : ∀ l x y, p x → p y → ACall Try.prog g (#[] ++ #[.int .i64 x, .int .i64 y] ++ cap) (St m r kd s l) (Ret (.int .i64 (c x y)) (St m r kd s l))
section
variable {m : AM} {r s : Nat} {kd : Kind} {le : Int → Int → Bool} {c : Int → Int → Int} {p : Int → Prop} {g : FuncId} {cap : Array Value} {fn : Func} {bd : Code}
/-- Of two places the comparison answers as the order does. -/
def Cross (le : Int → Int → Bool) (c : Int → Int → Int) (x y : Int) : Prop := c y x < 0 ↔ le x y = false
set_option maxRecDepth 100000 in
theorem f128_ok (hC : CmpOk m r s kd c p g cap) (hT : TO le) (hf : Try.prog.funcs[g]? = some fn) (hb : fn.body = some bd) (a b n : Nat) (pre A post : List Int) (ha : pre.length = a) (hab : a + A.length = b) (hn : (pre ++ A ++ post).length = n) (hlim : n ≤ 1000000)
    (hp : ∀ x ∈ A, p x) (hX : A.Pairwise (Cross le c)) :
    ACall Try.prog 128 #[.slice (some ⟨r, 0, none⟩) n n, .int .i64 (a : Nat), .int .i64 (b : Nat), .func (.func g) #[] cap] (St m r kd s (pre ++ A ++ post)) (Ret (.tuple #[]) (St m r kd s (pre ++ ms le A ++ post))) := by
  have hr := hC.hr; have hkd := hC.hkd
  have hlen : pre.length + A.length + post.length = n := by rw [← hn]; simp; omega
  refine ACall.intro Try.func128 rfl (Nat.le_of_ble_eq_true rfl) ?_
  (repeat (first | (with_reducible refine AWo.cons ?_) | ((with_reducible refine Step.id ?_); first | ((with_reducible apply Step.move); exact rfl; exact rfl) | ((with_reducible apply Step.assign); exact rfl; exact rfl) | ((with_reducible apply Step.add); exact rfl; exact rfl; (focus (omega)); exact rfl)) | (with_reducible refine AWo.nil ?_) | ((with_reducible apply AW.seq)) | ((with_reducible apply Then.n)) | ((with_reducible apply AW.regL)) | ((with_reducible apply AW.block))))
  refine AW.loopW (fun k t M => ∃ q, k = A.length - q ∧ 1 ≤ q ∧ q ≤ max 1 A.length ∧ t = fr [(0, .slice (some ⟨r, 0, none⟩) n n), (1, .int .i64 (a : Nat)), (2, .int .i64 (b : Nat)), (3, .func (.func g) #[] cap), (8, .int .i64 ((a + q : Nat) : Int))] ∧
    M = St m r kd s (pre ++ ms le (A.take q) ++ (A.drop q ++ post))) ⟨_, _, (by repeat (first | exact trivial | (refine And.intro rfl ?_))), 1, rfl, Nat.le_refl _, by omega, rfl, ?_⟩ ?_
  · cases A with
    | nil => simp [ms]
    | cons x l => simp [ms]
  rintro k t M ⟨q, rfl, hq1, hq, rfl, rfl⟩
  rcases Nat.lt_or_ge q A.length with hlt | hge
  · obtain ⟨x, hx⟩ : ∃ x, x = A.getD q 0 := ⟨_, rfl⟩
    have hdrop : A.drop q = x :: A.drop (q + 1) := by
      rw [List.drop_eq_getElem_cons hlt, hx]; simp [hlt]
    have htake : A.take (q + 1) = A.take q ++ [x] := by
      rw [List.take_succ_eq_append_getElem hlt, hx]; simp [hlt]
    have hxA : x ∈ A := by rw [hx]; simp [hlt]
    have hcr : ∀ z ∈ A.take q, c x z < 0 ↔ le z x = false := fun z hz => by
      rw [← List.take_append_drop q A, hdrop] at hX
      exact (List.pairwise_append.1 hX).2.2 z hz x (by simp)
    have hmem : ∀ z ∈ A.take q, z ∈ A := fun z hz => List.mem_of_mem_take hz
    have hsl : (ms le (A.take q)).length = q := by rw [ms_len]; simp; omega
    rw [hdrop]
    generalize hR : A.drop (q + 1) = R
    have hRl : R.length = A.length - (q + 1) := by rw [← hR]; simp
    have hgoal : ms le (A.take q ++ [x]) = ms le (A.take (q + 1)) := by rw [htake]
    generalize hS : A.take q = S at *
    have hSl : S.length = q := by rw [← hS]; simp; omega
    (repeat (first | (with_reducible refine AWo.cons ?_) | ((with_reducible refine Step.id ?_); first | ((with_reducible apply Step.move); exact rfl; exact rfl) | ((with_reducible apply Step.assign); exact rfl; exact rfl) | ((with_reducible apply Step.lss); exact rfl; exact rfl; exact rfl)) | (with_reducible refine AWo.nil ?_) | ((with_reducible apply AW.seq)) | ((with_reducible apply Then.n)) | ((with_reducible apply AW.regL)) | ((with_reducible apply AW.block)) | ((with_reducible apply AW.skip)) | ((with_reducible apply AW.condT); exact rfl; (focus ((simp only [decide_eq_true_eq, decide_eq_false_iff_not, Bool.not_eq_true', Bool.not_eq_false', Bool.not_true, Bool.not_false]; first | assumption | omega))))))
    refine AW.loopW (fun k t M => ∃ (S1 S2 : List Int) (j : Nat), k = S1.length ∧ j = a + S1.length ∧ ms le S = S1 ++ S2 ∧ (∀ z ∈ S2, le x z = true) ∧ t = fr [(0, .slice (some ⟨r, 0, none⟩) n n), (1, .int .i64 (a : Nat)), (2, .int .i64 (b : Nat)), (3, .func (.func g) #[] cap), (8, .int .i64 ((a + q : Nat) : Int)), (9, .int .i64 ((j : Nat) : Int))] ∧
      M = St m r kd s (pre ++ S1 ++ x :: S2 ++ (R ++ post))) ⟨_, _, (by repeat (first | exact trivial | (refine And.intro rfl ?_))), ms le S, [], a + q, rfl, by rw [hsl], by simp, by simp, rfl, ?_⟩ ?_
    · have hq0 : ms le S ++ x :: R ++ post = ms le S ++ [] ++ x :: R ++ post := by simp
      simp
    rintro k t M ⟨S1, S2, j, rfl, rfl, hms, hS2, rfl, rfl⟩
    have hl2 : S1.length + S2.length = q := by rw [← List.length_append, ← hms, hsl]
    rcases List.eq_nil_or_concat S1 with rfl | ⟨S1', z, rfl⟩
    · (repeat (first | (with_reducible refine AWo.cons ?_) | ((with_reducible refine Step.id ?_); first | ((with_reducible apply Step.gdF); exact rfl; exact rfl; (focus ((simp; done)))) | ((with_reducible apply Step.move); exact rfl; exact rfl) | ((with_reducible apply Step.assign); exact rfl; exact rfl) | ((with_reducible apply Step.add); exact rfl; exact rfl; (focus (omega)); exact rfl) | ((with_reducible apply Step.gtr); exact rfl; exact rfl; exact rfl) | ((with_reducible apply Step.pickF); exact rfl; exact rfl; exact rfl; exact rfl; (focus ((simp; done))))) | (with_reducible refine AWo.nil ?_) | ((with_reducible apply AW.seq)) | ((with_reducible apply Then.n)) | ((with_reducible apply AW.regL)) | ((with_reducible apply AW.drawL fit); (focus (decide +kernel))) | ((with_reducible apply AW.exit)) | ((with_reducible apply InBlk.n)) | ((with_reducible apply InBlk.hit)) | ((with_reducible apply Then.e)) | ((with_reducible apply AW.condF); exact rfl; (focus (rfl)))))
      refine ⟨_, _, ?_, (by repeat (first | exact trivial | (refine And.intro rfl ?_))), q + 1, rfl, by omega, by omega, rfl, ?_⟩
      · omega
      · have := ms_one (l := S) hT (S1 := []) (S2 := S2) (by rw [← hms]; exact ms_srt hT) (by simp) hS2 (by rw [← hms]; exact ms_perm)
        rw [← hgoal, this, hR]
        simp
    · have hz : z ∈ S := by rw [← ms_mem (le := le), hms]; simp
      have hcz := hcr z hz
      simp only [List.concat_eq_append] at hms hl2 ⊢
      have e1 : pre ++ (S1' ++ [z]) ++ x :: S2 ++ (R ++ post) = (pre ++ S1') ++ z :: x :: (S2 ++ (R ++ post)) := by simp
      rw [e1]
      have hl3 : S1'.length + 1 + S2.length = q := by simpa using hl2
      have hsw := swp_adj (p := pre ++ S1') (q := S2 ++ (R ++ post)) (x := z) (y := x) (i := a + S1'.length) (by simp [ha])
      have hg1 : ((pre ++ S1') ++ z :: x :: (S2 ++ (R ++ post))).getD (a + S1'.length) 0 = z := by rw [getD_r (j := 0) (by simp [ha])]; simp
      have hg2 : ((pre ++ S1') ++ z :: x :: (S2 ++ (R ++ post))).getD (a + S1'.length + 1) 0 = x := by rw [getD_r (j := 1) (by simp only [List.length_append]; omega)]; simp
      have hll : ((pre ++ S1') ++ z :: x :: (S2 ++ (R ++ post))).length = n := by simp only [List.length_append, List.length_cons]; omega
      have hlen1 : (S1' ++ [z]).length = S1'.length + 1 := by simp
      generalize hrow : ((pre ++ S1') ++ z :: x :: (S2 ++ (R ++ post))) = row at *
      rw [hlen1]
      have r1 : Rd (St m r kd s row) r (a + S1'.length) (.int .i64 z) := by rw [← hg1]; exact St.rd hr (by omega)
      have r2 : Rd (St m r kd s row) r (a + S1'.length + 1) (.int .i64 x) := by rw [← hg2]; exact St.rd hr (by omega)
      have e2 : ((a + (S1'.length + 1) : Nat) : Int) - 1 = ((a + S1'.length : Nat) : Int) := by omega
      have hc := hC.call row x z (hp x hxA) (hp z (hmem z hz))
      by_cases hlt2 : c x z < 0
      · (repeat (first | (with_reducible refine AWo.cons ?_) | ((with_reducible refine Step.id ?_); first | ((with_reducible apply Step.gdT); exact rfl; exact rfl; (focus ((simp only [decide_eq_true_eq, decide_eq_false_iff_not, Bool.not_eq_true', Bool.not_eq_false', Bool.not_true, Bool.not_false]; first | assumption | omega)))) | ((with_reducible apply Step.move); exact rfl; exact rfl) | ((with_reducible apply Step.assign); exact rfl; exact rfl) | ((with_reducible apply Step.load); exact rfl; (focus (decide +kernel)); exact rfl; (focus (assumption))) | ((with_reducible apply Step.ix1z); exact rfl; (focus (exact Sl.mk (by omega))); exact rfl; (focus (decide +kernel)); exact rfl; (focus (omega))) | ((with_reducible apply Step.subE); exact rfl; exact rfl; (focus (assumption)); (focus (omega)); exact rfl) | ((with_reducible apply Step.lss); exact rfl; exact rfl; exact rfl) | ((with_reducible apply Step.gtr); exact rfl; exact rfl; exact rfl) | ((with_reducible apply Step.pickT); exact rfl; exact rfl; exact rfl; exact rfl; (focus ((simp only [decide_eq_true_eq, decide_eq_false_iff_not, Bool.not_eq_true', Bool.not_eq_false', Bool.not_true, Bool.not_false]; first | assumption | omega)))) | ((with_reducible apply Step.callV fit); exact rfl; exact rfl; exact hf; exact hb; exact rfl; exact (hc)) | ((with_reducible apply Step.storeR); exact rfl; exact rfl; (focus (decide +kernel)); exact hr; exact hkd; (focus (first | omega | (simp [swp, ms_len]; omega))); exact rfl)) | (with_reducible refine AWo.nil ?_) | ((with_reducible apply AW.seq)) | ((with_reducible apply Then.n)) | ((with_reducible apply AW.regL)) | ((with_reducible apply AW.block)) | ((with_reducible apply AW.drawL fit); (focus (decide +kernel))) | ((with_reducible apply InBlk.n)) | ((with_reducible apply AW.skip)) | ((with_reducible apply AW.condT); exact rfl; (focus ((simp only [decide_eq_true_eq, decide_eq_false_iff_not, Bool.not_eq_true', Bool.not_eq_false', Bool.not_true, Bool.not_false]; first | assumption | omega))))))
        have hxz : le x z = true := hT.of_not ((hcr z hz).1 hlt2)
        refine ⟨_, _, ?_, (by repeat (first | exact trivial | (refine And.intro rfl ?_))), S1', z :: S2, a + S1'.length, rfl, rfl, by rw [hms]; simp, fun y hy => ?_, rfl, ?_⟩
        · omega
        · rcases List.mem_cons.1 hy with rfl | hy
          · exact hxz
          · exact hS2 y hy
        · have : (row.set (a + (S1'.length + 1)) z).set (a + S1'.length) x = swp row (a + S1'.length) (a + S1'.length + 1) := by
            rw [swp_comm _ _ _ (by omega), swp, hg1, hg2]; rfl
          rw [this, hsw]
          simp
      · (repeat (first | (with_reducible refine AWo.cons ?_) | ((with_reducible refine Step.id ?_); first | ((with_reducible apply Step.gdT); exact rfl; exact rfl; (focus ((simp only [decide_eq_true_eq, decide_eq_false_iff_not, Bool.not_eq_true', Bool.not_eq_false', Bool.not_true, Bool.not_false]; first | assumption | omega)))) | ((with_reducible apply Step.move); exact rfl; exact rfl) | ((with_reducible apply Step.assign); exact rfl; exact rfl) | ((with_reducible apply Step.load); exact rfl; (focus (decide +kernel)); exact rfl; (focus (assumption))) | ((with_reducible apply Step.ix1z); exact rfl; (focus (exact Sl.mk (by omega))); exact rfl; (focus (decide +kernel)); exact rfl; (focus (omega))) | ((with_reducible apply Step.subE); exact rfl; exact rfl; (focus (assumption)); (focus (omega)); exact rfl) | ((with_reducible apply Step.add); exact rfl; exact rfl; (focus (omega)); exact rfl) | ((with_reducible apply Step.lss); exact rfl; exact rfl; exact rfl) | ((with_reducible apply Step.gtr); exact rfl; exact rfl; exact rfl) | ((with_reducible apply Step.pickT); exact rfl; exact rfl; exact rfl; exact rfl; (focus ((simp only [decide_eq_true_eq, decide_eq_false_iff_not, Bool.not_eq_true', Bool.not_eq_false', Bool.not_true, Bool.not_false]; first | assumption | omega)))) | ((with_reducible apply Step.callV fit); exact rfl; exact rfl; exact hf; exact hb; exact rfl; exact (hc))) | (with_reducible refine AWo.nil ?_) | ((with_reducible apply AW.seq)) | ((with_reducible apply Then.n)) | ((with_reducible apply AW.regL)) | ((with_reducible apply AW.drawL fit); (focus (decide +kernel))) | ((with_reducible apply AW.exit)) | ((with_reducible apply InBlk.n)) | ((with_reducible apply InBlk.hit)) | ((with_reducible apply Then.e)) | ((with_reducible apply AW.condF); exact rfl; (focus ((simp only [decide_eq_true_eq, decide_eq_false_iff_not, Bool.not_eq_true', Bool.not_eq_false', Bool.not_true, Bool.not_false]; first | assumption | omega))))))
        have hzx : le z x = true := by
          cases hq : le z x with
          | true => rfl
          | false => exact absurd ((hcr z hz).2 hq) hlt2
        refine ⟨_, _, ?_, (by repeat (first | exact trivial | (refine And.intro rfl ?_))), q + 1, rfl, by omega, by omega, rfl, ?_⟩
        · omega
        · have hs := ms_srt (l := S) hT
          rw [hms] at hs
          have := ms_one (l := S) hT hs (fun y hy => by
            rcases List.mem_append.1 hy with hy | hy
            · exact hT.tr _ _ _ ((List.pairwise_append.1 (List.pairwise_append.1 hs).1).2.2 y hy z (by simp)) hzx
            · simp at hy; subst hy; exact hzx) hS2 (by rw [← hms]; exact ms_perm)
          rw [← hgoal, this, hR, ← hrow]
          simp
  · (repeat (first | (with_reducible refine AWo.cons ?_) | ((with_reducible refine Step.id ?_); first | ((with_reducible apply Step.move); exact rfl; exact rfl) | ((with_reducible apply Step.lss); exact rfl; exact rfl; exact rfl)) | (with_reducible refine AWo.nil ?_) | ((with_reducible apply AW.seq)) | ((with_reducible apply Then.n)) | ((with_reducible apply AW.regL)) | ((with_reducible apply AW.exit)) | ((with_reducible apply InBlk.hit)) | ((with_reducible apply Then.e)) | ((with_reducible apply AW.condF); exact rfl; (focus ((simp only [decide_eq_true_eq, decide_eq_false_iff_not, Bool.not_eq_true', Bool.not_eq_false', Bool.not_true, Bool.not_false]; first | assumption | omega))))))
    refine ⟨_, rfl, rfl, ?_⟩
    rw [List.take_of_length_le (by omega), List.drop_eq_nil_of_le (by omega)]
    simp
end
end Go.Proofs.Ytmomjannlnafcaa.Abs
namespace Go.Proofs.Ytmomjannlnafcaa.Abs
set_option linter.unusedSimpArgs false
set_option linter.unusedVariables false
open Go.RowKit
open Go.Proofs.Ytmomjannlnafcaa.Sim
open Go.Proofs
section
variable {m : AM} {r s : Nat} {kd : Kind} {g : FuncId} {cap : Array Value}
theorem swp_far {P Y W X1 X2 Z1 Z2 : List Int} {x z : Int} {i j : Nat} (hi : i = P.length + X1.length) (hj : j = P.length + X1.length + 1 + X2.length + Y.length + Z1.length) :
    swp (P ++ (X1 ++ x :: X2) ++ Y ++ (Z1 ++ z :: Z2) ++ W) i j = P ++ (X1 ++ z :: X2) ++ Y ++ (Z1 ++ x :: Z2) ++ W := by
  have e1 : P ++ (X1 ++ x :: X2) ++ Y ++ (Z1 ++ z :: Z2) ++ W = (P ++ X1) ++ x :: (X2 ++ Y ++ Z1 ++ z :: (Z2 ++ W)) := by simp
  have e2 : (P ++ X1) ++ x :: (X2 ++ Y ++ Z1 ++ z :: (Z2 ++ W)) = (P ++ X1 ++ x :: (X2 ++ Y ++ Z1)) ++ z :: (Z2 ++ W) := by simp
  have g1 : ((P ++ X1) ++ x :: (X2 ++ Y ++ Z1 ++ z :: (Z2 ++ W))).getD i 0 = x := by rw [getD_r (j := 0) (by simp only [List.length_append]; omega)]; simp
  have g2 : ((P ++ X1) ++ x :: (X2 ++ Y ++ Z1 ++ z :: (Z2 ++ W))).getD j 0 = z := by rw [e2, getD_r (j := 0) (by simp only [List.length_append, List.length_cons]; omega)]; simp
  unfold swp
  rw [e1, g1, g2, set_r (j := 0) (by simp only [List.length_append]; omega)]
  have e3 : (P ++ X1) ++ (x :: (X2 ++ Y ++ Z1 ++ z :: (Z2 ++ W))).set 0 z = (P ++ X1 ++ z :: (X2 ++ Y ++ Z1)) ++ z :: (Z2 ++ W) := by simp
  rw [e3, set_r (j := 0) (by simp only [List.length_append, List.length_cons]; omega)]
  simp
set_option maxRecDepth 100000 in
theorem f147_ok (hr : r < m.length) (hkd : kd.solid = true) (a b k n : Nat) (P X Y Z W : List Int) (ha : P.length = a) (hb : a + X.length + Y.length = b) (hx : X.length = k) (hz : Z.length = k) (hn : (P ++ X ++ Y ++ Z ++ W).length = n) (hlim : n ≤ 1000000) :
    ACall Try.prog 147 #[.slice (some ⟨r, 0, none⟩) n n, .int .i64 (a : Nat), .int .i64 (b : Nat), .int .i64 (k : Nat), .func (.func g) #[] cap] (St m r kd s (P ++ X ++ Y ++ Z ++ W)) (Ret (.tuple #[]) (St m r kd s (P ++ Z ++ Y ++ X ++ W))) := by
  have hlen : P.length + X.length + Y.length + Z.length + W.length = n := by rw [← hn]; simp only [List.length_append]
  refine ACall.intro Try.func147 rfl (Nat.le_of_ble_eq_true rfl) ?_
  (repeat (first | (with_reducible refine AWo.cons ?_) | ((with_reducible refine Step.id ?_); ((with_reducible apply Step.assign); exact rfl; exact rfl)) | (with_reducible refine AWo.nil ?_) | ((with_reducible apply AW.seq)) | ((with_reducible apply Then.n)) | ((with_reducible apply AW.regL)) | ((with_reducible apply AW.block))))
  refine AW.loopW (fun u t M => ∃ i, u = k - i ∧ i ≤ k ∧ t = fr [(0, .slice (some ⟨r, 0, none⟩) n n), (1, .int .i64 (a : Nat)), (2, .int .i64 (b : Nat)), (3, .int .i64 (k : Nat)), (4, .func (.func g) #[] cap), (10, .int .i64 ((i : Nat) : Int))] ∧
    M = St m r kd s (P ++ (Z.take i ++ X.drop i) ++ Y ++ (X.take i ++ Z.drop i) ++ W)) ⟨_, _, (by repeat (first | exact trivial | (refine And.intro rfl ?_))), 0, rfl, Nat.zero_le _, rfl, by simp⟩ ?_
  rintro u t M ⟨i, rfl, hi, rfl, rfl⟩
  rcases Nat.lt_or_ge i k with hlt | hge
  · obtain ⟨x, hxe⟩ : ∃ x, X.drop i = x :: X.drop (i + 1) := ⟨X[i]'(by omega), List.drop_eq_getElem_cons (by omega)⟩
    obtain ⟨z, hze⟩ : ∃ z, Z.drop i = z :: Z.drop (i + 1) := ⟨Z[i]'(by omega), List.drop_eq_getElem_cons (by omega)⟩
    have htx : X.take (i + 1) = X.take i ++ [x] := by
      rw [List.take_succ_eq_append_getElem (by omega)]
      have := List.drop_eq_getElem_cons (l := X) (i := i) (by omega)
      rw [hxe] at this; injection this with h1; rw [h1]
    have htz : Z.take (i + 1) = Z.take i ++ [z] := by
      rw [List.take_succ_eq_append_getElem (by omega)]
      have := List.drop_eq_getElem_cons (l := Z) (i := i) (by omega)
      rw [hze] at this; injection this with h1; rw [h1]
    have l1 : (X.take i).length = i := by simp; omega
    have l2 : (Z.take i).length = i := by simp; omega
    have l3 : (X.drop (i + 1)).length = k - (i + 1) := by simp; omega
    have l4 : (Z.drop (i + 1)).length = k - (i + 1) := by simp; omega
    have e0 : P ++ (Z.take i ++ X.drop i) ++ Y ++ (X.take i ++ Z.drop i) ++ W = P ++ (Z.take i ++ x :: X.drop (i + 1)) ++ Y ++ (X.take i ++ z :: Z.drop (i + 1)) ++ W := by rw [hxe, hze]
    have hsw := swp_far (P := P) (Y := Y) (W := W) (X1 := Z.take i) (X2 := X.drop (i + 1)) (Z1 := X.take i) (Z2 := Z.drop (i + 1)) (x := x) (z := z) (i := a + i) (j := b + i) (by omega) (by omega)
    rw [← e0] at hsw
    have hll : (P ++ (Z.take i ++ X.drop i) ++ Y ++ (X.take i ++ Z.drop i) ++ W).length = n := by rw [e0]; simp only [List.length_append, List.length_cons]; omega
    have e1 : ((a : Nat) : Int) + ((i : Nat) : Int) = ((a + i : Nat) : Int) := by omega
    have e2 : ((b : Nat) : Int) + ((i : Nat) : Int) = ((b + i : Nat) : Int) := by omega
    generalize P ++ (Z.take i ++ X.drop i) ++ Y ++ (X.take i ++ Z.drop i) ++ W = row at *
    (repeat (first | (with_reducible refine AWo.cons ?_) | ((with_reducible refine Step.id ?_); first | ((with_reducible apply Step.move); exact rfl; exact rfl) | ((with_reducible apply Step.assign); exact rfl; exact rfl) | ((with_reducible apply Step.load); exact rfl; (focus (decide +kernel)); exact rfl; (focus (exact St.rd hr (by first | omega | (simp [swp, ms_len]; omega))))) | ((with_reducible apply Step.ix1z); exact rfl; (focus (exact Sl.mk (by omega))); exact rfl; (focus (decide +kernel)); exact rfl; (focus (omega))) | ((with_reducible apply Step.addE); exact rfl; exact rfl; (focus (assumption)); (focus (omega)); exact rfl) | ((with_reducible apply Step.add); exact rfl; exact rfl; (focus (omega)); exact rfl) | ((with_reducible apply Step.lss); exact rfl; exact rfl; exact rfl) | ((with_reducible apply Step.storeR); exact rfl; exact rfl; (focus (decide +kernel)); exact hr; exact hkd; (focus (first | omega | (simp [swp, ms_len]; omega))); exact rfl)) | (with_reducible refine AWo.nil ?_) | ((with_reducible apply AW.seq)) | ((with_reducible apply Then.n)) | ((with_reducible apply AW.regL)) | ((with_reducible apply AW.block)) | ((with_reducible apply AW.drawL fit); (focus (decide +kernel))) | ((with_reducible apply InBlk.n)) | ((with_reducible apply AW.skip)) | ((with_reducible apply AW.condT); exact rfl; (focus ((simp only [decide_eq_true_eq, decide_eq_false_iff_not, Bool.not_eq_true', Bool.not_eq_false', Bool.not_true, Bool.not_false]; first | assumption | omega))))))
    refine ⟨_, _, ?_, (by repeat (first | exact trivial | (refine And.intro rfl ?_))), i + 1, rfl, by omega, rfl, ?_⟩
    · omega
    · show St m r kd s (swp row (a + i) (b + i)) = _
      rw [hsw, htx, htz]
      simp
  · (repeat (first | (with_reducible refine AWo.cons ?_) | ((with_reducible refine Step.id ?_); first | ((with_reducible apply Step.move); exact rfl; exact rfl) | ((with_reducible apply Step.lss); exact rfl; exact rfl; exact rfl)) | (with_reducible refine AWo.nil ?_) | ((with_reducible apply AW.seq)) | ((with_reducible apply Then.n)) | ((with_reducible apply AW.regL)) | ((with_reducible apply AW.exit)) | ((with_reducible apply InBlk.hit)) | ((with_reducible apply Then.e)) | ((with_reducible apply AW.condF); exact rfl; (focus ((simp only [decide_eq_true_eq, decide_eq_false_iff_not, Bool.not_eq_true', Bool.not_eq_false', Bool.not_true, Bool.not_false]; first | assumption | omega))))))
    refine ⟨_, rfl, rfl, ?_⟩
    obtain rfl : i = k := by omega
    rw [List.take_of_length_le (by omega), List.take_of_length_le (by omega), List.drop_eq_nil_of_le (by omega), List.drop_eq_nil_of_le (by omega)]
    simp
set_option maxRecDepth 100000 in
theorem f141_ok (hr : r < m.length) (hkd : kd.solid = true) (a b d n : Nat) (P U V W : List Int) (ha : P.length = a) (hb : a + U.length = b) (hd : b + V.length = d) (hu : 0 < U.length) (hv : 0 < V.length) (hn : (P ++ U ++ V ++ W).length = n) (hlim : n ≤ 1000000) :
    ACall Try.prog 141 #[.slice (some ⟨r, 0, none⟩) n n, .int .i64 (a : Nat), .int .i64 (b : Nat), .int .i64 (d : Nat), .func (.func g) #[] cap] (St m r kd s (P ++ U ++ V ++ W)) (Ret (.tuple #[]) (St m r kd s (P ++ V ++ U ++ W))) := by
  have hlen : P.length + U.length + V.length + W.length = n := by rw [← hn]; simp only [List.length_append]
  refine ACall.intro Try.func141 rfl (Nat.le_of_ble_eq_true rfl) ?_
  have e1 : ((b : Nat) : Int) - ((a : Nat) : Int) = ((U.length : Nat) : Int) := by omega
  have e2 : ((d : Nat) : Int) - ((b : Nat) : Int) = ((V.length : Nat) : Int) := by omega
  (repeat (first | (with_reducible refine AWo.cons ?_) | ((with_reducible refine Step.id ?_); first | ((with_reducible apply Step.move); exact rfl; exact rfl) | ((with_reducible apply Step.assign); exact rfl; exact rfl) | ((with_reducible apply Step.subE); exact rfl; exact rfl; (focus (assumption)); (focus (omega)); exact rfl)) | (with_reducible refine AWo.nil ?_) | ((with_reducible apply AW.seq)) | ((with_reducible apply Then.n)) | ((with_reducible apply AW.regL)) | ((with_reducible apply AW.block))))
  refine AW.loopW (fun u t M => ∃ (i j : Nat) (L I J R : List Int), u = i + j ∧ I.length = i ∧ J.length = j ∧ 0 < i ∧ 0 < j ∧ L.length + i = U.length ∧ R.length + j = V.length ∧ V ++ U = L ++ (J ++ I) ++ R ∧
    t = fr [(0, .slice (some ⟨r, 0, none⟩) n n), (1, .int .i64 (a : Nat)), (2, .int .i64 (b : Nat)), (3, .int .i64 (d : Nat)), (4, .func (.func g) #[] cap), (10, .int .i64 ((i : Nat) : Int)), (11, .int .i64 ((j : Nat) : Int))] ∧
    M = St m r kd s (P ++ L ++ I ++ J ++ R ++ W)) ⟨_, _, (by repeat (first | exact trivial | (refine And.intro rfl ?_))), U.length, V.length, [], U, V, [], rfl, rfl, rfl, hu, hv, by simp, by simp, by simp, rfl, by simp⟩ ?_
  rintro u t M ⟨i, j, L, I, J, R, rfl, hI, hJ, hi, hj, hL, hR, hVU, rfl, rfl⟩
  have e3 : ((b : Nat) : Int) - ((i : Nat) : Int) = ((b - i : Nat) : Int) := by omega
  have hl1 : (P ++ L).length = b - i := by rw [List.length_append]; omega
  have hll : (P ++ L ++ I ++ J ++ R ++ W).length = n := by simp only [List.length_append]; omega
  by_cases hij : i = j
  · subst hij
    have e := f147_ok (g := g) (cap := cap) (s := s) hr hkd (b - i) b i n (P ++ L) I [] J (R ++ W) hl1 (by simp; omega) hI hJ (by rw [← hll]; simp) hlim
    simp only [List.append_nil, ← List.append_assoc] at e
    (repeat (first | (with_reducible refine AWo.cons ?_) | ((with_reducible refine Step.id ?_); first | ((with_reducible apply Step.move); exact rfl; exact rfl) | ((with_reducible apply Step.subE); exact rfl; exact rfl; (focus (assumption)); (focus (omega)); exact rfl) | ((with_reducible apply Step.neq); exact rfl; exact rfl; exact rfl) | ((with_reducible apply Step.callM fit); exact rfl; exact Try.func147; exact rfl; exact rfl; exact (e))) | (with_reducible refine AWo.nil ?_) | ((with_reducible apply AW.seq)) | ((with_reducible apply Then.n)) | ((with_reducible apply AW.regL)) | ((with_reducible apply AW.exit)) | ((with_reducible apply InBlk.hit)) | ((with_reducible apply Then.e)) | ((with_reducible apply AW.condF); exact rfl; (focus ((simp; done))))))
    refine ⟨_, rfl, rfl, ?_⟩
    have : P ++ V ++ U ++ W = P ++ (V ++ U) ++ W := by simp
    rw [this, hVU]
    simp
  · rcases Nat.lt_or_ge j i with hlt | hge
    · have hsp : I = I.take j ++ I.drop j := by rw [List.take_append_drop]
      have l1 : (I.take j).length = j := by simp; omega
      have l2 : (I.drop j).length = i - j := by simp; omega
      generalize I.take j = I1 at *
      generalize I.drop j = I2 at *
      subst hsp
      have e := f147_ok (g := g) (cap := cap) (s := s) hr hkd (b - i) b j n (P ++ L) I1 I2 J (R ++ W) hl1 (by omega) l1 hJ (by rw [← hll]; simp) hlim
      simp only [← List.append_assoc] at e hll
      have e4 : ((i : Nat) : Int) - ((j : Nat) : Int) = ((i - j : Nat) : Int) := by omega
      simp only [← List.append_assoc]
      (repeat (first | (with_reducible refine AWo.cons ?_) | ((with_reducible refine Step.id ?_); first | ((with_reducible apply Step.move); exact rfl; exact rfl) | ((with_reducible apply Step.assign); exact rfl; exact rfl) | ((with_reducible apply Step.subE); exact rfl; exact rfl; (focus (assumption)); (focus (omega)); exact rfl) | ((with_reducible apply Step.gtr); exact rfl; exact rfl; exact rfl) | ((with_reducible apply Step.neq); exact rfl; exact rfl; exact rfl) | ((with_reducible apply Step.callM fit); exact rfl; exact Try.func147; exact rfl; exact rfl; exact (e))) | (with_reducible refine AWo.nil ?_) | ((with_reducible apply AW.seq)) | ((with_reducible apply Then.n)) | ((with_reducible apply AW.regL)) | ((with_reducible apply AW.block)) | ((with_reducible apply InBlk.n)) | ((with_reducible apply AW.skip)) | ((with_reducible apply AW.condT); exact rfl; (focus ((simp only [decide_eq_true_eq, decide_eq_false_iff_not, Bool.not_eq_true', Bool.not_eq_false', Bool.not_true, Bool.not_false]; first | assumption | omega))))))
      refine ⟨_, _, ?_, (by repeat (first | exact trivial | (refine And.intro rfl ?_))), i - j, j, L ++ J, I2, I1, R, rfl, l2, l1, by omega, hj, by rw [List.length_append]; omega, hR, by rw [hVU]; simp, rfl, by simp⟩
      omega
    · have hsp : J = J.take (j - i) ++ J.drop (j - i) := by rw [List.take_append_drop]
      have l1 : (J.take (j - i)).length = j - i := by simp; omega
      have l2 : (J.drop (j - i)).length = i := by simp; omega
      generalize J.take (j - i) = J1 at *
      generalize J.drop (j - i) = J2 at *
      subst hsp
      have e := f147_ok (g := g) (cap := cap) (s := s) hr hkd (b - i) (b + j - i) i n (P ++ L) I J1 J2 (R ++ W) hl1 (by omega) hI l2 (by rw [← hll]; simp) hlim
      simp only [← List.append_assoc] at e hll
      have e4 : ((j : Nat) : Int) - ((i : Nat) : Int) = ((j - i : Nat) : Int) := by omega
      have e5 : ((b : Nat) : Int) + ((j : Nat) : Int) = ((b + j : Nat) : Int) := by omega
      have e6 : ((b + j : Nat) : Int) - ((i : Nat) : Int) = ((b + j - i : Nat) : Int) := by omega
      simp only [← List.append_assoc]
      (repeat (first | (with_reducible refine AWo.cons ?_) | ((with_reducible refine Step.id ?_); first | ((with_reducible apply Step.move); exact rfl; exact rfl) | ((with_reducible apply Step.assign); exact rfl; exact rfl) | ((with_reducible apply Step.addE); exact rfl; exact rfl; (focus (assumption)); (focus (omega)); exact rfl) | ((with_reducible apply Step.subE); exact rfl; exact rfl; (focus (assumption)); (focus (omega)); exact rfl) | ((with_reducible apply Step.gtr); exact rfl; exact rfl; exact rfl) | ((with_reducible apply Step.neq); exact rfl; exact rfl; exact rfl) | ((with_reducible apply Step.callM fit); exact rfl; exact Try.func147; exact rfl; exact rfl; exact (e))) | (with_reducible refine AWo.nil ?_) | ((with_reducible apply AW.seq)) | ((with_reducible apply Then.n)) | ((with_reducible apply AW.regL)) | ((with_reducible apply AW.block)) | ((with_reducible apply InBlk.n)) | ((with_reducible apply AW.skip)) | ((with_reducible apply AW.condT); exact rfl; (focus ((simp only [decide_eq_true_eq, decide_eq_false_iff_not, Bool.not_eq_true', Bool.not_eq_false', Bool.not_true, Bool.not_false]; first | assumption | omega)))) | ((with_reducible apply AW.condF); exact rfl; (focus ((simp only [decide_eq_true_eq, decide_eq_false_iff_not, Bool.not_eq_true', Bool.not_eq_false', Bool.not_true, Bool.not_false]; first | assumption | omega))))))
      refine ⟨_, _, ?_, (by repeat (first | exact trivial | (refine And.intro rfl ?_))), i, j - i, L, J2, J1, I ++ R, rfl, l2, l1, hi, by omega, hL, by rw [List.length_append]; omega, by rw [hVU]; simp, rfl, by simp⟩
      omega
end
end Go.Proofs.Ytmomjannlnafcaa.Abs
namespace Go.Proofs.Ytmomjannlnafcaa.Abs
set_option linter.unusedSimpArgs false
set_option linter.unusedVariables false
open Go.RowKit
open Go.Proofs.Ytmomjannlnafcaa.Sim
open Go.Proofs
theorem ms_congr {le : Int → Int → Bool} {l k : List Int} (hT : TO le) (h : l.Perm k) : ms le l = ms le k := ms_of hT (ms_perm.trans h.symm) (ms_srt hT)
section
variable {m : AM} {r s : Nat} {kd : Kind} {le : Int → Int → Bool} {c : Int → Int → Int} {p : Int → Prop} {g : FuncId} {cap : Array Value} {fn : Func} {bd : Code}
theorem get_mid {P A B W : List Int} {a i : Nat} (ha : P.length = a) (h : i < A.length) : (P ++ A ++ B ++ W).getD (a + i) 0 = A.getD i 0 := by
  rw [List.append_assoc, List.append_assoc, getD_r (j := i) (by omega), getD_l h]
theorem get_right {P A B W : List Int} {a i : Nat} (ha : (P ++ A).length = a) (h : i < B.length) : (P ++ A ++ B ++ W).getD (a + i) 0 = B.getD i 0 := by
  rw [List.append_assoc, getD_r (j := i) (by omega), getD_l h]
set_option maxRecDepth 100000 in
theorem f129_l (hC : CmpOk m r s kd c p g cap) (hT : TO le) (hf : Try.prog.funcs[g]? = some fn) (hb : fn.body = some bd) (a b d n : Nat) (P B W : List Int) (x : Int) (ha : P.length = a) (hab : a + 1 = b) (hbd : b + B.length = d) (hB : 0 < B.length) (hn : (P ++ [x] ++ B ++ W).length = n) (hlim : n ≤ 1000000)
    (hpx : p x) (hp : ∀ x ∈ B, p x) (hX : ∀ y ∈ B, Cross le c x y) (hs : Srt le B) :
    ACall Try.prog 129 #[.slice (some ⟨r, 0, none⟩) n n, .int .i64 (a : Nat), .int .i64 (b : Nat), .int .i64 (d : Nat), .func (.func g) #[] cap] (St m r kd s (P ++ [x] ++ B ++ W)) (Ret (.tuple #[]) (St m r kd s (P ++ ms le ([x] ++ B) ++ W))) := by
  subst hbd
  have hr := hC.hr; have hkd := hC.hkd
  have hlen : P.length + 1 + B.length + W.length = n := by rw [← hn]; simp only [List.length_append, List.length_cons, List.length_nil]
  refine ACall.intro Try.func129 rfl (Nat.le_of_ble_eq_true rfl) ?_
  (repeat (first | (with_reducible refine AWo.cons ?_) | ((with_reducible refine Step.id ?_); first | ((with_reducible apply Step.move); exact rfl; exact rfl) | ((with_reducible apply Step.assign); exact rfl; exact rfl) | ((with_reducible apply Step.sub); exact rfl; exact rfl; (focus (omega)); exact rfl) | ((with_reducible apply Step.eql); exact rfl; exact rfl; exact rfl)) | (with_reducible refine AWo.nil ?_) | ((with_reducible apply AW.seq)) | ((with_reducible apply Then.n)) | ((with_reducible apply AW.regL)) | ((with_reducible apply AW.block)) | ((with_reducible apply AW.condT); exact rfl; (focus ((simp only [decide_eq_true_eq, decide_eq_false_iff_not, Bool.not_eq_true', Bool.not_eq_false', Bool.not_true, Bool.not_false]; first | assumption | omega))))))
  refine AW.loopW (fun u t M => ∃ (q w : Nat), u = w - q ∧ q ≤ w ∧ w ≤ B.length ∧ (∀ k, k < q → le x (B.getD k 0) = false) ∧ (∀ k, w ≤ k → k < B.length → le x (B.getD k 0) = true) ∧
    t = fr [(0, .slice (some ⟨r, 0, none⟩) n n), (1, .int .i64 (a : Nat)), (2, .int .i64 (b : Nat)), (3, .int .i64 ((b + B.length : Nat) : Int)), (4, .func (.func g) #[] cap), (10, .int .i64 ((b + q : Nat) : Int)), (11, .int .i64 ((b + w : Nat) : Int))] ∧
    M = St m r kd s (P ++ [x] ++ B ++ W)) ⟨_, _, (by repeat (first | exact trivial | (refine And.intro rfl ?_))), 0, B.length, rfl, Nat.zero_le _, Nat.le_refl _, by omega, by omega, rfl, rfl⟩ ?_
  rintro u t M ⟨q, w, rfl, hqw, hw, h1, h2, rfl, rfl⟩
  have hgx : (P ++ [x] ++ B ++ W).getD a 0 = x := by have := get_mid (P := P) (A := [x]) (B := B) (W := W) (i := 0) ha (by simp); simpa using this
  have hgB : ∀ k, k < B.length → (P ++ [x] ++ B ++ W).getD (b + k) 0 = B.getD k 0 := fun k hk => get_right (by simp; omega) hk
  rcases Nat.lt_or_ge q w with hlt | hge
  · obtain ⟨h, hh⟩ : ∃ h, h = (q + w) / 2 := ⟨_, rfl⟩
    have e1 : ((b + q : Nat) : Int) + ((b + w : Nat) : Int) = ((b + q + (b + w) : Nat) : Int) := by omega
    have e2 : ((b + q + (b + w) : Nat) : Int) / 2 = ((b + h : Nat) : Int) := by omega
    have r1 : Rd (St m r kd s (P ++ [x] ++ B ++ W)) r (b + h) (.int .i64 (B.getD h 0)) := by rw [← hgB h (by omega)]; exact St.rd hr (by omega)
    have r2 : Rd (St m r kd s (P ++ [x] ++ B ++ W)) r a (.int .i64 x) := by
      have := St.rd (m := m) (s := s) (kd := kd) (l := P ++ [x] ++ B ++ W) (o := a) hr (by omega)
      rwa [hgx] at this
    have hm : B.getD h 0 ∈ B := by simp [show h < B.length by omega]
    have hc := hC.call (P ++ [x] ++ B ++ W) (B.getD h 0) x (hp _ hm) hpx
    have hx := hX _ hm
    have hmono : ∀ i j, i ≤ j → j < B.length → le (B.getD i 0) (B.getD j 0) = true := fun i j h1 h2 => srt_getE hT hs h1 h2
    generalize (P ++ [x] ++ B ++ W) = row at *
    by_cases hlt2 : c (B.getD h 0) x < 0
    · (repeat (first | (with_reducible refine AWo.cons ?_) | ((with_reducible refine Step.id ?_); first | ((with_reducible apply Step.move); exact rfl; exact rfl) | ((with_reducible apply Step.assign); exact rfl; exact rfl) | ((with_reducible apply Step.load); exact rfl; (focus (decide +kernel)); exact rfl; (focus (assumption))) | ((with_reducible apply Step.ix1z); exact rfl; (focus (exact Sl.mk (by omega))); exact rfl; (focus (decide +kernel)); exact rfl; (focus (omega))) | ((with_reducible apply Step.addE); exact rfl; exact rfl; (focus (assumption)); (focus (omega)); exact rfl) | ((with_reducible apply Step.halfE); exact rfl; exact rfl; (focus (assumption)); (focus (omega)); exact rfl) | ((with_reducible apply Step.toU); exact rfl; exact un3i; exact un46u; (focus (omega)); exact rfl) | ((with_reducible apply Step.toI); exact rfl; exact un46u; exact un3i; (focus (omega)); exact rfl) | ((with_reducible apply Step.add); exact rfl; exact rfl; (focus (omega)); exact rfl) | ((with_reducible apply Step.lss); exact rfl; exact rfl; exact rfl) | ((with_reducible apply Step.callV fit); exact rfl; exact rfl; exact hf; exact hb; exact rfl; exact (hc))) | (with_reducible refine AWo.nil ?_) | ((with_reducible apply AW.seq)) | ((with_reducible apply Then.n)) | ((with_reducible apply AW.regL)) | ((with_reducible apply AW.block)) | ((with_reducible apply AW.drawL fit); (focus (decide +kernel))) | ((with_reducible apply InBlk.n)) | ((with_reducible apply AW.skip)) | ((with_reducible apply AW.condT); exact rfl; (focus ((simp only [decide_eq_true_eq, decide_eq_false_iff_not, Bool.not_eq_true', Bool.not_eq_false', Bool.not_true, Bool.not_false]; first | assumption | omega))))))
      have hxf := hx.1 hlt2
      refine ⟨_, _, ?_, (by repeat (first | exact trivial | (refine And.intro rfl ?_))), h + 1, w, rfl, by omega, hw, fun k hk => ?_, h2, rfl, rfl⟩
      · omega
      · cases hq : le x (B.getD k 0) with
        | false => rfl
        | true => rw [hT.tr _ _ _ hq (hmono k h (by omega) (by omega))] at hxf; cases hxf
    · (repeat (first | (with_reducible refine AWo.cons ?_) | ((with_reducible refine Step.id ?_); first | ((with_reducible apply Step.move); exact rfl; exact rfl) | ((with_reducible apply Step.assign); exact rfl; exact rfl) | ((with_reducible apply Step.load); exact rfl; (focus (decide +kernel)); exact rfl; (focus (assumption))) | ((with_reducible apply Step.ix1z); exact rfl; (focus (exact Sl.mk (by omega))); exact rfl; (focus (decide +kernel)); exact rfl; (focus (omega))) | ((with_reducible apply Step.addE); exact rfl; exact rfl; (focus (assumption)); (focus (omega)); exact rfl) | ((with_reducible apply Step.halfE); exact rfl; exact rfl; (focus (assumption)); (focus (omega)); exact rfl) | ((with_reducible apply Step.toU); exact rfl; exact un3i; exact un46u; (focus (omega)); exact rfl) | ((with_reducible apply Step.toI); exact rfl; exact un46u; exact un3i; (focus (omega)); exact rfl) | ((with_reducible apply Step.lss); exact rfl; exact rfl; exact rfl) | ((with_reducible apply Step.callV fit); exact rfl; exact rfl; exact hf; exact hb; exact rfl; exact (hc))) | (with_reducible refine AWo.nil ?_) | ((with_reducible apply AW.seq)) | ((with_reducible apply Then.n)) | ((with_reducible apply AW.regL)) | ((with_reducible apply AW.block)) | ((with_reducible apply AW.drawL fit); (focus (decide +kernel))) | ((with_reducible apply InBlk.n)) | ((with_reducible apply AW.skip)) | ((with_reducible apply AW.condT); exact rfl; (focus ((simp only [decide_eq_true_eq, decide_eq_false_iff_not, Bool.not_eq_true', Bool.not_eq_false', Bool.not_true, Bool.not_false]; first | assumption | omega)))) | ((with_reducible apply AW.condF); exact rfl; (focus ((simp only [decide_eq_true_eq, decide_eq_false_iff_not, Bool.not_eq_true', Bool.not_eq_false', Bool.not_true, Bool.not_false]; first | assumption | omega))))))
      have hxt : le x (B.getD h 0) = true := by
        cases hq : le x (B.getD h 0) with
        | true => rfl
        | false => exact absurd (hx.2 hq) hlt2
      refine ⟨_, _, ?_, (by repeat (first | exact trivial | (refine And.intro rfl ?_))), q, h, rfl, by omega, by omega, h1, fun k hk hk2 => hT.tr _ _ _ hxt (hmono h k hk hk2), rfl, rfl⟩
      omega
  · obtain rfl : q = w := by omega
    have l1 : (B.take q).length = q := by simp; omega
    have hres : ms le ([x] ++ B) = B.take q ++ x :: B.drop q := by
      rw [ms_congr hT (List.perm_append_comm (l₁ := [x]) (l₂ := B))]
      refine ms_one hT (by rw [List.take_append_drop]; exact hs) (fun y hy => ?_) (fun y hy => ?_) (by rw [List.take_append_drop])
      · obtain ⟨i, i1, i2, rfl⟩ := mem_take_get hy
        exact hT.of_not (h1 i i1)
      · obtain ⟨i, i1, i2, rfl⟩ := mem_drop_get hy
        exact h2 i i1 i2
    have e3 : ((b + q : Nat) : Int) - 1 = ((a + q : Nat) : Int) := by omega
    (repeat (first | (with_reducible refine AWo.cons ?_) | ((with_reducible refine Step.id ?_); first | ((with_reducible apply Step.move); exact rfl; exact rfl) | ((with_reducible apply Step.assign); exact rfl; exact rfl) | ((with_reducible apply Step.lss); exact rfl; exact rfl; exact rfl)) | (with_reducible refine AWo.nil ?_) | ((with_reducible apply AW.seq)) | ((with_reducible apply Then.n)) | ((with_reducible apply AW.regL)) | ((with_reducible apply AW.block)) | ((with_reducible apply AW.exit)) | ((with_reducible apply InBlk.hit)) | ((with_reducible apply Then.e)) | ((with_reducible apply AW.condF); exact rfl; (focus ((simp only [decide_eq_true_eq, decide_eq_false_iff_not, Bool.not_eq_true', Bool.not_eq_false', Bool.not_true, Bool.not_false]; first | assumption | omega))))))
    refine AW.loopW (fun u t M => ∃ (v : Nat), u = q - v ∧ v ≤ q ∧ t = fr [(0, .slice (some ⟨r, 0, none⟩) n n), (10, .int .i64 ((b + q : Nat) : Int)), (13, .int .i64 ((a + v : Nat) : Int))] ∧
      M = St m r kd s (P ++ B.take v ++ x :: (B.take q).drop v ++ (B.drop q ++ W))) ⟨_, _, (by repeat (first | exact trivial | (refine And.intro rfl ?_))), 0, rfl, Nat.zero_le _, rfl, by
        have : P ++ B.take 0 ++ x :: (B.take q).drop 0 ++ (B.drop q ++ W) = P ++ [x] ++ (B.take q ++ B.drop q) ++ W := by simp only [List.take_zero, List.drop_zero, List.append_nil, List.append_assoc, List.cons_append, List.nil_append]
        rw [this, List.take_append_drop]⟩ ?_
    rintro u t M ⟨v, rfl, hv, rfl, rfl⟩
    rcases Nat.lt_or_ge v q with hlt | hge
    · obtain ⟨y, hy⟩ : ∃ y, (B.take q).drop v = y :: (B.take q).drop (v + 1) := ⟨(B.take q)[v]'(by omega), List.drop_eq_getElem_cons (by omega)⟩
      have hty : B.take (v + 1) = B.take v ++ [y] := by
        rw [List.take_succ_eq_append_getElem (by omega)]
        have := List.drop_eq_getElem_cons (l := B.take q) (i := v) (by omega)
        rw [hy] at this; injection this with h1; rw [h1]; simp
      have lv : (B.take v).length = v := by simp; omega
      have e0 : P ++ B.take v ++ x :: (B.take q).drop v ++ (B.drop q ++ W) = (P ++ B.take v) ++ x :: y :: ((B.take q).drop (v + 1) ++ (B.drop q ++ W)) := by rw [hy]; simp
      have hsw := swp_adj (p := P ++ B.take v) (q := (B.take q).drop (v + 1) ++ (B.drop q ++ W)) (x := x) (y := y) (i := a + v) (by rw [List.length_append]; omega)
      have hll : ((P ++ B.take v) ++ x :: y :: ((B.take q).drop (v + 1) ++ (B.drop q ++ W))).length = n := by
        simp only [List.length_append, List.length_cons, List.length_drop]; omega
      rw [e0]
      have e4 : ((a + v : Nat) : Int) + 1 = ((a + v + 1 : Nat) : Int) := by omega
      generalize (P ++ B.take v) ++ x :: y :: ((B.take q).drop (v + 1) ++ (B.drop q ++ W)) = row at *
      (repeat (first | (with_reducible refine AWo.cons ?_) | ((with_reducible refine Step.id ?_); first | ((with_reducible apply Step.move); exact rfl; exact rfl) | ((with_reducible apply Step.assign); exact rfl; exact rfl) | ((with_reducible apply Step.load); exact rfl; (focus (decide +kernel)); exact rfl; (focus (exact St.rd hr (by first | omega | (simp [swp, ms_len]; omega))))) | ((with_reducible apply Step.ix1z); exact rfl; (focus (exact Sl.mk (by omega))); exact rfl; (focus (decide +kernel)); exact rfl; (focus (omega))) | ((with_reducible apply Step.addE); exact rfl; exact rfl; (focus (assumption)); (focus (omega)); exact rfl) | ((with_reducible apply Step.subE); exact rfl; exact rfl; (focus (assumption)); (focus (omega)); exact rfl) | ((with_reducible apply Step.lss); exact rfl; exact rfl; exact rfl) | ((with_reducible apply Step.storeR); exact rfl; exact rfl; (focus (decide +kernel)); exact hr; exact hkd; (focus (first | omega | (simp [swp, ms_len]; omega))); exact rfl)) | (with_reducible refine AWo.nil ?_) | ((with_reducible apply AW.seq)) | ((with_reducible apply Then.n)) | ((with_reducible apply AW.regL)) | ((with_reducible apply AW.block)) | ((with_reducible apply AW.drawL fit); (focus (decide +kernel))) | ((with_reducible apply InBlk.n)) | ((with_reducible apply AW.skip)) | ((with_reducible apply AW.condT); exact rfl; (focus ((simp only [decide_eq_true_eq, decide_eq_false_iff_not, Bool.not_eq_true', Bool.not_eq_false', Bool.not_true, Bool.not_false]; first | assumption | omega))))))
      refine ⟨_, _, ?_, (by repeat (first | exact trivial | (refine And.intro rfl ?_))), v + 1, rfl, by omega, rfl, ?_⟩
      · omega
      · show St m r kd s (swp row (a + v) (a + v + 1)) = _
        rw [hsw, hty]
        simp
    · (repeat (first | (with_reducible refine AWo.cons ?_) | ((with_reducible refine Step.id ?_); first | ((with_reducible apply Step.move); exact rfl; exact rfl) | ((with_reducible apply Step.subE); exact rfl; exact rfl; (focus (assumption)); (focus (omega)); exact rfl) | ((with_reducible apply Step.lss); exact rfl; exact rfl; exact rfl)) | (with_reducible refine AWo.nil ?_) | ((with_reducible apply AW.seq)) | ((with_reducible apply Then.n)) | ((with_reducible apply AW.regL)) | ((with_reducible apply AW.exit)) | ((with_reducible apply InBlk.hit)) | ((with_reducible apply Then.e)) | ((with_reducible apply AW.condF); exact rfl; (focus ((simp only [decide_eq_true_eq, decide_eq_false_iff_not, Bool.not_eq_true', Bool.not_eq_false', Bool.not_true, Bool.not_false]; first | assumption | omega))))))
      (refine AW.ret ?_; (repeat (first | refine Then.r ?_ | refine InBlk.r ?_)))
      refine ⟨_, rfl, rfl, ?_⟩
      obtain rfl : v = q := by omega
      rw [hres, show (B.take v).drop v = [] from List.drop_eq_nil_of_le (by simp only [List.length_take]; omega)]
      simp
set_option maxRecDepth 100000 in
theorem f129_r (hC : CmpOk m r s kd c p g cap) (hT : TO le) (hf : Try.prog.funcs[g]? = some fn) (hb : fn.body = some bd) (a n : Nat) (P A W : List Int) (y : Int) (ha : P.length = a) (hA : 1 < A.length) (hn : (P ++ A ++ [y] ++ W).length = n) (hlim : n ≤ 1000000)
    (hpy : p y) (hp : ∀ x ∈ A, p x) (hX : ∀ x ∈ A, Cross le c x y) (hs : Srt le A) :
    ACall Try.prog 129 #[.slice (some ⟨r, 0, none⟩) n n, .int .i64 (a : Nat), .int .i64 ((a + A.length : Nat) : Int), .int .i64 ((a + A.length + 1 : Nat) : Int), .func (.func g) #[] cap] (St m r kd s (P ++ A ++ [y] ++ W)) (Ret (.tuple #[]) (St m r kd s (P ++ ms le (A ++ [y]) ++ W))) := by
  have hr := hC.hr; have hkd := hC.hkd
  have hlen : P.length + A.length + 1 + W.length = n := by rw [← hn]; simp only [List.length_append, List.length_cons, List.length_nil]
  refine ACall.intro Try.func129 rfl (Nat.le_of_ble_eq_true rfl) ?_
  (repeat (first | (with_reducible refine AWo.cons ?_) | ((with_reducible refine Step.id ?_); first | ((with_reducible apply Step.move); exact rfl; exact rfl) | ((with_reducible apply Step.assign); exact rfl; exact rfl) | ((with_reducible apply Step.sub); exact rfl; exact rfl; (focus (omega)); exact rfl) | ((with_reducible apply Step.eql); exact rfl; exact rfl; exact rfl)) | (with_reducible refine AWo.nil ?_) | ((with_reducible apply AW.seq)) | ((with_reducible apply Then.n)) | ((with_reducible apply AW.regL)) | ((with_reducible apply AW.block)) | ((with_reducible apply AW.skip)) | ((with_reducible apply AW.condT); exact rfl; (focus ((simp only [decide_eq_true_eq, decide_eq_false_iff_not, Bool.not_eq_true', Bool.not_eq_false', Bool.not_true, Bool.not_false]; first | assumption | omega)))) | ((with_reducible apply AW.condF); exact rfl; (focus ((simp only [decide_eq_true_eq, decide_eq_false_iff_not, Bool.not_eq_true', Bool.not_eq_false', Bool.not_true, Bool.not_false]; first | assumption | omega))))))
  refine AW.loopW (fun u t M => ∃ (q w : Nat), u = w - q ∧ q ≤ w ∧ w ≤ A.length ∧ (∀ k, k < q → le (A.getD k 0) y = true) ∧ (∀ k, w ≤ k → k < A.length → le (A.getD k 0) y = false) ∧
    t = fr [(0, .slice (some ⟨r, 0, none⟩) n n), (1, .int .i64 (a : Nat)), (2, .int .i64 ((a + A.length : Nat) : Int)), (4, .func (.func g) #[] cap), (14, .int .i64 ((a + q : Nat) : Int)), (15, .int .i64 ((a + w : Nat) : Int))] ∧
    M = St m r kd s (P ++ A ++ [y] ++ W)) ⟨_, _, (by repeat (first | exact trivial | (refine And.intro rfl ?_))), 0, A.length, rfl, Nat.zero_le _, Nat.le_refl _, by omega, by omega, rfl, rfl⟩ ?_
  rintro u t M ⟨q, w, rfl, hqw, hw, h1, h2, rfl, rfl⟩
  have hgy : (P ++ A ++ [y] ++ W).getD (a + A.length) 0 = y := by have := get_right (P := P) (A := A) (B := [y]) (W := W) (a := a + A.length) (i := 0) (by simp; omega) (by simp); simpa using this
  have hgA : ∀ k, k < A.length → (P ++ A ++ [y] ++ W).getD (a + k) 0 = A.getD k 0 := fun k hk => get_mid ha hk
  rcases Nat.lt_or_ge q w with hlt | hge
  · obtain ⟨h, hh⟩ : ∃ h, h = (q + w) / 2 := ⟨_, rfl⟩
    have e1 : ((a + q : Nat) : Int) + ((a + w : Nat) : Int) = ((a + q + (a + w) : Nat) : Int) := by omega
    have e2 : ((a + q + (a + w) : Nat) : Int) / 2 = ((a + h : Nat) : Int) := by omega
    have r1 : Rd (St m r kd s (P ++ A ++ [y] ++ W)) r (a + h) (.int .i64 (A.getD h 0)) := by rw [← hgA h (by omega)]; exact St.rd hr (by omega)
    have r2 : Rd (St m r kd s (P ++ A ++ [y] ++ W)) r (a + A.length) (.int .i64 y) := by
      have := St.rd (m := m) (s := s) (kd := kd) (l := P ++ A ++ [y] ++ W) (o := a + A.length) hr (by omega)
      rwa [hgy] at this
    have hm : A.getD h 0 ∈ A := by simp [show h < A.length by omega]
    have hc := hC.call (P ++ A ++ [y] ++ W) y (A.getD h 0) hpy (hp _ hm)
    have hx := hX _ hm
    have hmono : ∀ i j, i ≤ j → j < A.length → le (A.getD i 0) (A.getD j 0) = true := fun i j h1 h2 => srt_getE hT hs h1 h2
    generalize (P ++ A ++ [y] ++ W) = row at *
    by_cases hlt2 : c y (A.getD h 0) < 0
    · (repeat (first | (with_reducible refine AWo.cons ?_) | ((with_reducible refine Step.id ?_); first | ((with_reducible apply Step.move); exact rfl; exact rfl) | ((with_reducible apply Step.assign); exact rfl; exact rfl) | ((with_reducible apply Step.load); exact rfl; (focus (decide +kernel)); exact rfl; (focus (assumption))) | ((with_reducible apply Step.ix1z); exact rfl; (focus (exact Sl.mk (by omega))); exact rfl; (focus (decide +kernel)); exact rfl; (focus (omega))) | ((with_reducible apply Step.addE); exact rfl; exact rfl; (focus (assumption)); (focus (omega)); exact rfl) | ((with_reducible apply Step.halfE); exact rfl; exact rfl; (focus (assumption)); (focus (omega)); exact rfl) | ((with_reducible apply Step.toU); exact rfl; exact un3i; exact un46u; (focus (omega)); exact rfl) | ((with_reducible apply Step.toI); exact rfl; exact un46u; exact un3i; (focus (omega)); exact rfl) | ((with_reducible apply Step.lss); exact rfl; exact rfl; exact rfl) | ((with_reducible apply Step.not); exact rfl; exact rfl) | ((with_reducible apply Step.callV fit); exact rfl; exact rfl; exact hf; exact hb; exact rfl; exact (hc))) | (with_reducible refine AWo.nil ?_) | ((with_reducible apply AW.seq)) | ((with_reducible apply Then.n)) | ((with_reducible apply AW.regL)) | ((with_reducible apply AW.block)) | ((with_reducible apply AW.drawL fit); (focus (decide +kernel))) | ((with_reducible apply InBlk.n)) | ((with_reducible apply AW.skip)) | ((with_reducible apply AW.condT); exact rfl; (focus ((simp only [decide_eq_true_eq, decide_eq_false_iff_not, Bool.not_eq_true', Bool.not_eq_false', Bool.not_true, Bool.not_false]; first | assumption | omega)))) | ((with_reducible apply AW.condF); exact rfl; (focus ((simp only [decide_eq_true_eq, decide_eq_false_iff_not, Bool.not_eq_true', Bool.not_eq_false', Bool.not_true, Bool.not_false]; first | assumption | omega))))))
      have hxf := hx.1 hlt2
      refine ⟨_, _, ?_, (by repeat (first | exact trivial | (refine And.intro rfl ?_))), q, h, rfl, by omega, by omega, h1, fun k hk hk2 => ?_, rfl, rfl⟩
      · omega
      · cases hq : le (A.getD k 0) y with
        | false => rfl
        | true => rw [hT.tr _ _ _ (hmono h k hk hk2) hq] at hxf; cases hxf
    · (repeat (first | (with_reducible refine AWo.cons ?_) | ((with_reducible refine Step.id ?_); first | ((with_reducible apply Step.move); exact rfl; exact rfl) | ((with_reducible apply Step.assign); exact rfl; exact rfl) | ((with_reducible apply Step.load); exact rfl; (focus (decide +kernel)); exact rfl; (focus (assumption))) | ((with_reducible apply Step.ix1z); exact rfl; (focus (exact Sl.mk (by omega))); exact rfl; (focus (decide +kernel)); exact rfl; (focus (omega))) | ((with_reducible apply Step.addE); exact rfl; exact rfl; (focus (assumption)); (focus (omega)); exact rfl) | ((with_reducible apply Step.halfE); exact rfl; exact rfl; (focus (assumption)); (focus (omega)); exact rfl) | ((with_reducible apply Step.toU); exact rfl; exact un3i; exact un46u; (focus (omega)); exact rfl) | ((with_reducible apply Step.toI); exact rfl; exact un46u; exact un3i; (focus (omega)); exact rfl) | ((with_reducible apply Step.add); exact rfl; exact rfl; (focus (omega)); exact rfl) | ((with_reducible apply Step.lss); exact rfl; exact rfl; exact rfl) | ((with_reducible apply Step.not); exact rfl; exact rfl) | ((with_reducible apply Step.callV fit); exact rfl; exact rfl; exact hf; exact hb; exact rfl; exact (hc))) | (with_reducible refine AWo.nil ?_) | ((with_reducible apply AW.seq)) | ((with_reducible apply Then.n)) | ((with_reducible apply AW.regL)) | ((with_reducible apply AW.block)) | ((with_reducible apply AW.drawL fit); (focus (decide +kernel))) | ((with_reducible apply InBlk.n)) | ((with_reducible apply AW.skip)) | ((with_reducible apply AW.condT); exact rfl; (focus ((simp only [decide_eq_true_eq, decide_eq_false_iff_not, Bool.not_eq_true', Bool.not_eq_false', Bool.not_true, Bool.not_false]; first | assumption | omega))))))
      have hxt : le (A.getD h 0) y = true := by
        cases hq : le (A.getD h 0) y with
        | true => rfl
        | false => exact absurd (hx.2 hq) hlt2
      refine ⟨_, _, ?_, (by repeat (first | exact trivial | (refine And.intro rfl ?_))), h + 1, w, rfl, by omega, hw, fun k hk => hT.tr _ _ _ (hmono k h (by omega) (by omega)) hxt, h2, rfl, rfl⟩
      omega
  · obtain rfl : q = w := by omega
    have l1 : (A.take q).length = q := by simp; omega
    have hres : ms le (A ++ [y]) = A.take q ++ y :: A.drop q := by
      refine ms_one hT (by rw [List.take_append_drop]; exact hs) (fun x hx => ?_) (fun x hx => ?_) (by rw [List.take_append_drop])
      · obtain ⟨i, i1, i2, rfl⟩ := mem_take_get hx
        exact h1 i i1
      · obtain ⟨i, i1, i2, rfl⟩ := mem_drop_get hx
        exact hT.of_not (h2 i i1 i2)
    (repeat (first | (with_reducible refine AWo.cons ?_) | ((with_reducible refine Step.id ?_); first | ((with_reducible apply Step.move); exact rfl; exact rfl) | ((with_reducible apply Step.assign); exact rfl; exact rfl) | ((with_reducible apply Step.lss); exact rfl; exact rfl; exact rfl)) | (with_reducible refine AWo.nil ?_) | ((with_reducible apply AW.seq)) | ((with_reducible apply Then.n)) | ((with_reducible apply AW.regL)) | ((with_reducible apply AW.block)) | ((with_reducible apply AW.exit)) | ((with_reducible apply InBlk.hit)) | ((with_reducible apply Then.e)) | ((with_reducible apply AW.condF); exact rfl; (focus ((simp only [decide_eq_true_eq, decide_eq_false_iff_not, Bool.not_eq_true', Bool.not_eq_false', Bool.not_true, Bool.not_false]; first | assumption | omega))))))
    refine AW.loopW (fun u t M => ∃ (v : Nat), u = v ∧ q ≤ v ∧ v ≤ A.length ∧ t = fr [(0, .slice (some ⟨r, 0, none⟩) n n), (14, .int .i64 ((a + q : Nat) : Int)), (17, .int .i64 ((a + v : Nat) : Int))] ∧
      M = St m r kd s (P ++ A.take v ++ y :: A.drop v ++ W)) ⟨_, _, (by repeat (first | exact trivial | (refine And.intro rfl ?_))), A.length, rfl, by omega, Nat.le_refl _, rfl, by simp⟩ ?_
    rintro v t M ⟨v', rfl, hqv, hv, rfl, rfl⟩
    rcases Nat.lt_or_ge q v with hlt | hge
    · obtain ⟨v, rfl⟩ : ∃ z, v = z + 1 := ⟨v - 1, by omega⟩
      obtain ⟨x, hx⟩ : ∃ x, A.drop v = x :: A.drop (v + 1) := ⟨A[v]'(by omega), List.drop_eq_getElem_cons (by omega)⟩
      have hty : A.take (v + 1) = A.take v ++ [x] := by
        rw [List.take_succ_eq_append_getElem (by omega)]
        have := List.drop_eq_getElem_cons (l := A) (i := v) (by omega)
        rw [hx] at this; injection this with h1; rw [h1]
      have lv : (A.take v).length = v := by simp; omega
      have e0 : P ++ A.take (v + 1) ++ y :: A.drop (v + 1) ++ W = (P ++ A.take v) ++ x :: y :: (A.drop (v + 1) ++ W) := by rw [hty]; simp
      have hsw := swp_adj (p := P ++ A.take v) (q := A.drop (v + 1) ++ W) (x := x) (y := y) (i := a + v) (by rw [List.length_append]; omega)
      have hll : ((P ++ A.take v) ++ x :: y :: (A.drop (v + 1) ++ W)).length = n := by
        simp only [List.length_append, List.length_cons, List.length_drop]; omega
      rw [e0]
      have e4 : ((a + (v + 1) : Nat) : Int) - 1 = ((a + v : Nat) : Int) := by omega
      generalize (P ++ A.take v) ++ x :: y :: (A.drop (v + 1) ++ W) = row at *
      (repeat (first | (with_reducible refine AWo.cons ?_) | ((with_reducible refine Step.id ?_); first | ((with_reducible apply Step.move); exact rfl; exact rfl) | ((with_reducible apply Step.assign); exact rfl; exact rfl) | ((with_reducible apply Step.load); exact rfl; (focus (decide +kernel)); exact rfl; (focus (exact St.rd hr (by first | omega | (simp [swp, ms_len]; omega))))) | ((with_reducible apply Step.ix1z); exact rfl; (focus (exact Sl.mk (by omega))); exact rfl; (focus (decide +kernel)); exact rfl; (focus (omega))) | ((with_reducible apply Step.subE); exact rfl; exact rfl; (focus (assumption)); (focus (omega)); exact rfl) | ((with_reducible apply Step.gtr); exact rfl; exact rfl; exact rfl) | ((with_reducible apply Step.storeR); exact rfl; exact rfl; (focus (decide +kernel)); exact hr; exact hkd; (focus (first | omega | (simp [swp, ms_len]; omega))); exact rfl)) | (with_reducible refine AWo.nil ?_) | ((with_reducible apply AW.seq)) | ((with_reducible apply Then.n)) | ((with_reducible apply AW.regL)) | ((with_reducible apply AW.block)) | ((with_reducible apply AW.drawL fit); (focus (decide +kernel))) | ((with_reducible apply InBlk.n)) | ((with_reducible apply AW.skip)) | ((with_reducible apply AW.condT); exact rfl; (focus ((simp only [decide_eq_true_eq, decide_eq_false_iff_not, Bool.not_eq_true', Bool.not_eq_false', Bool.not_true, Bool.not_false]; first | assumption | omega))))))
      refine ⟨_, _, ?_, (by repeat (first | exact trivial | (refine And.intro rfl ?_))), v, rfl, by omega, by omega, rfl, ?_⟩
      · omega
      · show St m r kd s (swp row (a + v + 1) (a + v)) = _
        rw [swp_comm _ _ _ (by omega), hsw, hx]
        simp
    · (repeat (first | (with_reducible refine AWo.cons ?_) | ((with_reducible refine Step.id ?_); first | ((with_reducible apply Step.move); exact rfl; exact rfl) | ((with_reducible apply Step.gtr); exact rfl; exact rfl; exact rfl)) | (with_reducible refine AWo.nil ?_) | ((with_reducible apply AW.seq)) | ((with_reducible apply Then.n)) | ((with_reducible apply AW.regL)) | ((with_reducible apply AW.exit)) | ((with_reducible apply InBlk.hit)) | ((with_reducible apply Then.e)) | ((with_reducible apply AW.condF); exact rfl; (focus ((simp only [decide_eq_true_eq, decide_eq_false_iff_not, Bool.not_eq_true', Bool.not_eq_false', Bool.not_true, Bool.not_false]; first | assumption | omega))))))
      (refine AW.ret ?_; (repeat (first | refine Then.r ?_ | refine InBlk.r ?_)))
      refine ⟨_, rfl, rfl, ?_⟩
      obtain rfl : v = q := by omega
      rw [hres]
      simp
end
end Go.Proofs.Ytmomjannlnafcaa.Abs
namespace Go.Proofs.Ytmomjannlnafcaa.Abs
set_option linter.unusedSimpArgs false
set_option linter.unusedVariables false
open Go.RowKit
open Go.Proofs.Ytmomjannlnafcaa.Sim
open Go.Proofs
section
variable {m : AM} {r s : Nat} {kd : Kind} {le : Int → Int → Bool} {c : Int → Int → Int} {p : Int → Prop} {g : FuncId} {cap : Array Value} {fn : Func} {bd : Code}
set_option maxHeartbeats 4000000 in
set_option maxRecDepth 100000 in
theorem f129_ok (hC : CmpOk m r s kd c p g cap) (hT : TO le) (hf : Try.prog.funcs[g]? = some fn) (hb : fn.body = some bd) (n : Nat) (hlim : n ≤ 1000000) : ∀ (N a b d : Nat) (P A B W : List Int), A.length + B.length ≤ N → P.length = a → a + A.length = b → b + B.length = d → 0 < A.length → 0 < B.length → (P ++ A ++ B ++ W).length = n →
    (∀ x ∈ A, p x) → (∀ x ∈ B, p x) → (∀ x ∈ A, ∀ y ∈ B, Cross le c x y) → Srt le A → Srt le B →
    ACall Try.prog 129 #[.slice (some ⟨r, 0, none⟩) n n, .int .i64 (a : Nat), .int .i64 (b : Nat), .int .i64 (d : Nat), .func (.func g) #[] cap] (St m r kd s (P ++ A ++ B ++ W)) (Ret (.tuple #[]) (St m r kd s (P ++ ms le (A ++ B) ++ W))) := by
  intro N
  induction N with
  | zero => intros; omega
  | succ N ih =>
  intro a b d P A B W hN ha hab hbd hA hB hn hpA hpB hX hsA hsB
  by_cases hA1 : A.length = 1
  · obtain ⟨x, rfl⟩ : ∃ x, A = [x] := List.length_eq_one_iff.1 hA1
    exact f129_l hC hT hf hb a b d n P B W x ha (by simpa using hab) hbd hB hn hlim (hpA x (by simp)) hpB (fun y hy => hX x (by simp) y hy) hsB
  by_cases hB1 : B.length = 1
  · obtain ⟨y, rfl⟩ : ∃ y, B = [y] := List.length_eq_one_iff.1 hB1
    subst hab
    simp only [List.length_cons, List.length_nil] at hbd
    subst hbd
    exact f129_r hC hT hf hb a n P A W y ha (by omega) hn hlim (hpB y (by simp)) hpA (fun x hx => hX x hx y (by simp)) hsA
  subst hab
  subst hbd
  have hr := hC.hr; have hkd := hC.hkd
  have hlen : P.length + A.length + B.length + W.length = n := by rw [← hn]; simp only [List.length_append]
  obtain ⟨h, hh⟩ : ∃ h, h = (A.length + B.length) / 2 := ⟨_, rfl⟩
  refine ACall.intro Try.func129 rfl (Nat.le_of_ble_eq_true rfl) ?_
  have e1 : ((a : Nat) : Int) + ((a + A.length + B.length : Nat) : Int) = ((a + (a + A.length + B.length) : Nat) : Int) := by omega
  have e2 : ((a + (a + A.length + B.length) : Nat) : Int) / 2 = ((a + h : Nat) : Int) := by omega
  have e3 : ((a + h : Nat) : Int) + ((a + A.length : Nat) : Int) = ((a + h + (a + A.length) : Nat) : Int) := by omega
  have e5 : ((a + h + (a + A.length) : Nat) : Int) - 1 = ((a + h + (a + A.length) - 1 : Nat) : Int) := by omega
  have e6 : h - B.length + B.length = h ∨ h ≤ B.length := by omega
  (repeat (first | (with_reducible refine AWo.cons ?_) | ((with_reducible refine Step.id ?_); first | ((with_reducible apply Step.move); exact rfl; exact rfl) | ((with_reducible apply Step.assign); exact rfl; exact rfl) | ((with_reducible apply Step.addE); exact rfl; exact rfl; (focus (assumption)); (focus (omega)); exact rfl) | ((with_reducible apply Step.halfE); exact rfl; exact rfl; (focus (assumption)); (focus (omega)); exact rfl) | ((with_reducible apply Step.toU); exact rfl; exact un3i; exact un46u; (focus (omega)); exact rfl) | ((with_reducible apply Step.toI); exact rfl; exact un46u; exact un3i; (focus (omega)); exact rfl) | ((with_reducible apply Step.sub); exact rfl; exact rfl; (focus (omega)); exact rfl) | ((with_reducible apply Step.gtr); exact rfl; exact rfl; exact rfl) | ((with_reducible apply Step.eql); exact rfl; exact rfl; exact rfl)) | (with_reducible refine AWo.nil ?_) | ((with_reducible apply AW.seq)) | ((with_reducible apply Then.n)) | ((with_reducible apply AW.regL)) | ((with_reducible apply AW.skip)) | ((with_reducible apply AW.condF); exact rfl; (focus ((simp only [decide_eq_true_eq, decide_eq_false_iff_not, Bool.not_eq_true', Bool.not_eq_false', Bool.not_true, Bool.not_false]; first | assumption | omega))))))
  refine AW.join (fun t M => ∃ q w : Nat, h - B.length = q ∧ w = min A.length h ∧ All (fun i v => t i = some v) [(0, .slice (some ⟨r, 0, none⟩) n n), (1, .int .i64 (a : Nat)), (2, .int .i64 ((a + A.length : Nat) : Int)), (3, .int .i64 ((a + A.length + B.length : Nat) : Int)), (4, .func (.func g) #[] cap), (18, .int .i64 ((a + h : Nat) : Int)), (19, .int .i64 ((a + h + (a + A.length) : Nat) : Int)), (20, .int .i64 ((a + q : Nat) : Int)), (21, .int .i64 ((a + w : Nat) : Int))] ∧
    M = St m r kd s (P ++ A ++ B ++ W)) ?_ ?_
  · rcases Nat.lt_or_ge h A.length with hc | hc
    · have e4 : ((a + h + (a + A.length) : Nat) : Int) - ((a + A.length + B.length : Nat) : Int) = ((a + (h - B.length) : Nat) : Int) := by omega
      (repeat (first | (with_reducible refine AWo.cons ?_) | ((with_reducible refine Step.id ?_); first | ((with_reducible apply Step.move); exact rfl; exact rfl) | ((with_reducible apply Step.assign); exact rfl; exact rfl) | ((with_reducible apply Step.subE); exact rfl; exact rfl; (focus (assumption)); (focus (omega)); exact rfl)) | (with_reducible refine AWo.nil ?_) | ((with_reducible apply AW.seq)) | ((with_reducible apply Then.n)) | ((with_reducible apply AW.regL)) | ((with_reducible apply AW.condT); exact rfl; (focus ((simp only [decide_eq_true_eq, decide_eq_false_iff_not, Bool.not_eq_true', Bool.not_eq_false', Bool.not_true, Bool.not_false]; first | assumption | omega))))))
      exact ⟨h - B.length, h, rfl, by omega, (by repeat (first | exact trivial | (refine And.intro rfl ?_))), rfl⟩
    · (repeat (first | (with_reducible refine AWo.cons ?_) | ((with_reducible refine Step.id ?_); first | ((with_reducible apply Step.move); exact rfl; exact rfl) | ((with_reducible apply Step.assign); exact rfl; exact rfl)) | (with_reducible refine AWo.nil ?_) | ((with_reducible apply AW.seq)) | ((with_reducible apply Then.n)) | ((with_reducible apply AW.regL)) | ((with_reducible apply AW.condF); exact rfl; (focus ((simp only [decide_eq_true_eq, decide_eq_false_iff_not, Bool.not_eq_true', Bool.not_eq_false', Bool.not_true, Bool.not_false]; first | assumption | omega))))))
      exact ⟨0, A.length, by omega, by omega, (by repeat (first | exact trivial | (refine And.intro rfl ?_))), rfl⟩
  rintro t M ⟨q0, w0, hq0, hw0, hall, rfl⟩
  refine AW.weak (fr_all hall) ?_
  (repeat (first | (with_reducible refine AWo.cons ?_) | ((with_reducible refine Step.id ?_); first | ((with_reducible apply Step.move); exact rfl; exact rfl) | ((with_reducible apply Step.assign); exact rfl; exact rfl) | ((with_reducible apply Step.subE); exact rfl; exact rfl; (focus (assumption)); (focus (omega)); exact rfl)) | (with_reducible refine AWo.nil ?_) | ((with_reducible apply AW.seq)) | ((with_reducible apply Then.n)) | ((with_reducible apply AW.regL)) | ((with_reducible apply AW.block))))
  refine AW.loopW (fun u t M => ∃ (q w : Nat), u = w - q ∧ h - B.length ≤ q ∧ q ≤ w ∧ w ≤ min A.length h ∧ (∀ k, h - B.length ≤ k → k < q → le (A.getD k 0) (B.getD (h - 1 - k) 0) = true) ∧ (∀ k, w ≤ k → k < min A.length h → le (A.getD k 0) (B.getD (h - 1 - k) 0) = false) ∧
    t = fr [(0, .slice (some ⟨r, 0, none⟩) n n), (1, .int .i64 (a : Nat)), (2, .int .i64 ((a + A.length : Nat) : Int)), (3, .int .i64 ((a + A.length + B.length : Nat) : Int)), (4, .func (.func g) #[] cap), (18, .int .i64 ((a + h : Nat) : Int)), (19, .int .i64 ((a + h + (a + A.length) : Nat) : Int)), (20, .int .i64 ((a + q : Nat) : Int)), (21, .int .i64 ((a + w : Nat) : Int)), (22, .int .i64 ((a + h + (a + A.length) - 1 : Nat) : Int))] ∧
    M = St m r kd s (P ++ A ++ B ++ W)) ⟨_, _, (by repeat (first | exact trivial | (refine And.intro rfl ?_))), q0, w0, rfl, by omega, by omega, by omega, by omega, by omega, rfl, rfl⟩ ?_
  rintro u t M ⟨q, w, rfl, hq1, hqw, hw, h1, h2, rfl, rfl⟩
  rcases Nat.lt_or_ge q w with hlt | hge
  · obtain ⟨k, hk⟩ : ∃ k, k = (q + w) / 2 := ⟨_, rfl⟩
    have f1 : ((a + q : Nat) : Int) + ((a + w : Nat) : Int) = ((a + q + (a + w) : Nat) : Int) := by omega
    have f2 : ((a + q + (a + w) : Nat) : Int) / 2 = ((a + k : Nat) : Int) := by omega
    have f3 : ((a + h + (a + A.length) - 1 : Nat) : Int) - ((a + k : Nat) : Int) = ((a + A.length + (h - 1 - k) : Nat) : Int) := by omega
    have r1 : Rd (St m r kd s (P ++ A ++ B ++ W)) r (a + k) (.int .i64 (A.getD k 0)) := by rw [← get_mid (B := B) (W := W) ha (show k < A.length by omega)]; exact St.rd hr (by omega)
    have r2 : Rd (St m r kd s (P ++ A ++ B ++ W)) r (a + A.length + (h - 1 - k)) (.int .i64 (B.getD (h - 1 - k) 0)) := by rw [← get_right (P := P) (A := A) (W := W) (a := a + A.length) (by rw [List.length_append]; omega) (show h - 1 - k < B.length by omega)]; exact St.rd hr (by omega)
    have hmA : A.getD k 0 ∈ A := by simp [show k < A.length by omega]
    have hmB : B.getD (h - 1 - k) 0 ∈ B := by simp [show h - 1 - k < B.length by omega]
    have hc := hC.call (P ++ A ++ B ++ W) (B.getD (h - 1 - k) 0) (A.getD k 0) (hpB _ hmB) (hpA _ hmA)
    have hx := hX _ hmA _ hmB
    have mA : ∀ i j, i ≤ j → j < A.length → le (A.getD i 0) (A.getD j 0) = true := fun i j h1 h2 => srt_getE hT hsA h1 h2
    have mB : ∀ i j, i ≤ j → j < B.length → le (B.getD i 0) (B.getD j 0) = true := fun i j h1 h2 => srt_getE hT hsB h1 h2
    by_cases hlt2 : c (B.getD (h - 1 - k) 0) (A.getD k 0) < 0
    · have hxf := hx.1 hlt2
      generalize (P ++ A ++ B ++ W) = row at *
      (repeat (first | (with_reducible refine AWo.cons ?_) | ((with_reducible refine Step.id ?_); first | ((with_reducible apply Step.move); exact rfl; exact rfl) | ((with_reducible apply Step.assign); exact rfl; exact rfl) | ((with_reducible apply Step.load); exact rfl; (focus (decide +kernel)); exact rfl; (focus (assumption))) | ((with_reducible apply Step.ix1z); exact rfl; (focus (exact Sl.mk (by omega))); exact rfl; (focus (decide +kernel)); exact rfl; (focus (omega))) | ((with_reducible apply Step.addE); exact rfl; exact rfl; (focus (assumption)); (focus (omega)); exact rfl) | ((with_reducible apply Step.subE); exact rfl; exact rfl; (focus (assumption)); (focus (omega)); exact rfl) | ((with_reducible apply Step.halfE); exact rfl; exact rfl; (focus (assumption)); (focus (omega)); exact rfl) | ((with_reducible apply Step.toU); exact rfl; exact un3i; exact un46u; (focus (omega)); exact rfl) | ((with_reducible apply Step.toI); exact rfl; exact un46u; exact un3i; (focus (omega)); exact rfl) | ((with_reducible apply Step.lss); exact rfl; exact rfl; exact rfl) | ((with_reducible apply Step.not); exact rfl; exact rfl) | ((with_reducible apply Step.callV fit); exact rfl; exact rfl; exact hf; exact hb; exact rfl; exact (hc))) | (with_reducible refine AWo.nil ?_) | ((with_reducible apply AW.seq)) | ((with_reducible apply Then.n)) | ((with_reducible apply AW.regL)) | ((with_reducible apply AW.block)) | ((with_reducible apply AW.drawL fit); (focus (decide +kernel))) | ((with_reducible apply InBlk.n)) | ((with_reducible apply AW.skip)) | ((with_reducible apply AW.condT); exact rfl; (focus ((simp only [decide_eq_true_eq, decide_eq_false_iff_not, Bool.not_eq_true', Bool.not_eq_false', Bool.not_true, Bool.not_false]; first | assumption | omega)))) | ((with_reducible apply AW.condF); exact rfl; (focus ((simp only [decide_eq_true_eq, decide_eq_false_iff_not, Bool.not_eq_true', Bool.not_eq_false', Bool.not_true, Bool.not_false]; first | assumption | omega))))))
      refine ⟨_, _, ?_, (by repeat (first | exact trivial | (refine And.intro rfl ?_))), q, k, rfl, by omega, by omega, by omega, h1, fun j hj hj2 => ?_, rfl, rfl⟩
      · omega
      · cases hq : le (A.getD j 0) (B.getD (h - 1 - j) 0) with
        | false => rfl
        | true => rw [hT.tr _ _ _ (mA k j hj (by omega)) (hT.tr _ _ _ hq (mB (h - 1 - j) (h - 1 - k) (by omega) (by omega)))] at hxf; cases hxf
    · have hxt : le (A.getD k 0) (B.getD (h - 1 - k) 0) = true := by
        cases hq : le (A.getD k 0) (B.getD (h - 1 - k) 0) with
        | true => rfl
        | false => exact absurd (hx.2 hq) hlt2
      generalize (P ++ A ++ B ++ W) = row at *
      (repeat (first | (with_reducible refine AWo.cons ?_) | ((with_reducible refine Step.id ?_); first | ((with_reducible apply Step.move); exact rfl; exact rfl) | ((with_reducible apply Step.assign); exact rfl; exact rfl) | ((with_reducible apply Step.load); exact rfl; (focus (decide +kernel)); exact rfl; (focus (assumption))) | ((with_reducible apply Step.ix1z); exact rfl; (focus (exact Sl.mk (by omega))); exact rfl; (focus (decide +kernel)); exact rfl; (focus (omega))) | ((with_reducible apply Step.addE); exact rfl; exact rfl; (focus (assumption)); (focus (omega)); exact rfl) | ((with_reducible apply Step.subE); exact rfl; exact rfl; (focus (assumption)); (focus (omega)); exact rfl) | ((with_reducible apply Step.halfE); exact rfl; exact rfl; (focus (assumption)); (focus (omega)); exact rfl) | ((with_reducible apply Step.toU); exact rfl; exact un3i; exact un46u; (focus (omega)); exact rfl) | ((with_reducible apply Step.toI); exact rfl; exact un46u; exact un3i; (focus (omega)); exact rfl) | ((with_reducible apply Step.add); exact rfl; exact rfl; (focus (omega)); exact rfl) | ((with_reducible apply Step.lss); exact rfl; exact rfl; exact rfl) | ((with_reducible apply Step.not); exact rfl; exact rfl) | ((with_reducible apply Step.callV fit); exact rfl; exact rfl; exact hf; exact hb; exact rfl; exact (hc))) | (with_reducible refine AWo.nil ?_) | ((with_reducible apply AW.seq)) | ((with_reducible apply Then.n)) | ((with_reducible apply AW.regL)) | ((with_reducible apply AW.block)) | ((with_reducible apply AW.drawL fit); (focus (decide +kernel))) | ((with_reducible apply InBlk.n)) | ((with_reducible apply AW.skip)) | ((with_reducible apply AW.condT); exact rfl; (focus ((simp only [decide_eq_true_eq, decide_eq_false_iff_not, Bool.not_eq_true', Bool.not_eq_false', Bool.not_true, Bool.not_false]; first | assumption | omega))))))
      refine ⟨_, _, ?_, (by repeat (first | exact trivial | (refine And.intro rfl ?_))), k + 1, w, rfl, by omega, by omega, hw, fun j hj hj2 => ?_, h2, rfl, rfl⟩
      · omega
      · exact hT.tr _ _ _ (mA j k (by omega) (by omega)) (hT.tr _ _ _ hxt (mB (h - 1 - k) (h - 1 - j) (by omega) (by omega)))
  · obtain rfl : q = w := by omega
    clear e1 e2 e3 e5 e6 hall hq0 hw0
    have hcut := sym_cut hT hsA hsB hq1 hw h1 h2
    obtain ⟨A1, hA1'⟩ : ∃ A1, A1 = A.take q := ⟨_, rfl⟩
    obtain ⟨A2, hA2'⟩ : ∃ A2, A2 = A.drop q := ⟨_, rfl⟩
    obtain ⟨B1, hB1'⟩ : ∃ B1, B1 = B.take (h - q) := ⟨_, rfl⟩
    obtain ⟨B2, hB2'⟩ : ∃ B2, B2 = B.drop (h - q) := ⟨_, rfl⟩
    have hAA : A = A1 ++ A2 := by rw [hA1', hA2', List.take_append_drop]
    have hBB : B = B1 ++ B2 := by rw [hB1', hB2', List.take_append_drop]
    have lA1 : A1.length = q := by rw [hA1']; simp; omega
    have lB1 : B1.length = h - q := by rw [hB1']; simp; omega
    rw [← hA1', ← hA2', ← hB1', ← hB2'] at hcut
    clear hA1' hA2' hB1' hB2' h1 h2
    have lA2 : A2.length + q = A.length := by rw [hAA, List.length_append]; omega
    have lB2 : B2.length + (h - q) = B.length := by rw [hBB, List.length_append]; omega
    have sA1 : Srt le A1 ∧ Srt le A2 := by rw [hAA] at hsA; exact ⟨(List.pairwise_append.1 hsA).1, (List.pairwise_append.1 hsA).2.1⟩
    have sB1 : Srt le B1 ∧ Srt le B2 := by rw [hBB] at hsB; exact ⟨(List.pairwise_append.1 hsB).1, (List.pairwise_append.1 hsB).2.1⟩
    have mA1 : ∀ x ∈ A1, x ∈ A := fun x hx => by rw [hAA]; simp [hx]
    have mA2 : ∀ x ∈ A2, x ∈ A := fun x hx => by rw [hAA]; simp [hx]
    have mB1 : ∀ x ∈ B1, x ∈ B := fun x hx => by rw [hBB]; simp [hx]
    have mB2 : ∀ x ∈ B2, x ∈ B := fun x hx => by rw [hBB]; simp [hx]
    obtain ⟨r0, hr0⟩ : ∃ r0, r0 = P ++ A ++ B ++ W := ⟨_, rfl⟩
    obtain ⟨r1, hr1⟩ : ∃ r1, r1 = P ++ A1 ++ B1 ++ (A2 ++ B2 ++ W) := ⟨_, rfl⟩
    obtain ⟨r2, hr2⟩ : ∃ r2, r2 = (P ++ ms le (A1 ++ B1)) ++ A2 ++ B2 ++ W := ⟨_, rfl⟩
    obtain ⟨r3, hr3⟩ : ∃ r3, r3 = P ++ ms le (A ++ B) ++ W := ⟨_, rfl⟩
    have hr2' : r2 = P ++ ms le (A1 ++ B1) ++ (A2 ++ B2 ++ W) := by rw [hr2]; simp
    have hr3' : r3 = (P ++ ms le (A1 ++ B1)) ++ ms le (A2 ++ B2) ++ W := by rw [hr3, hcut]; simp
    have n1 : ¬(q < A.length ∧ q < h) → r0 = r1 := fun hno => by
      rw [hr0, hr1, hAA, hBB]
      rcases Nat.lt_or_ge q A.length with x1 | x1
      · obtain rfl : B1 = [] := List.eq_nil_of_length_eq_zero (by omega)
        simp
      · obtain rfl : A2 = [] := List.eq_nil_of_length_eq_zero (by omega)
        simp
    have n2 : ¬(0 < q ∧ q < h) → r1 = r2 := fun hno => by
      rw [hr1, hr2']
      rcases Nat.lt_or_ge 0 q with x1 | x1
      · obtain rfl : B1 = [] := List.eq_nil_of_length_eq_zero (by omega)
        simp only [List.append_nil]; rw [ms_self hT sA1.1]; try simp
      · obtain rfl : A1 = [] := List.eq_nil_of_length_eq_zero (by omega)
        simp only [List.nil_append]; rw [ms_self hT sB1.1]; try simp
    have n3 : ¬(q < A.length ∧ h - q < B.length) → r2 = r3 := fun hno => by
      rw [hr2, hr3']
      rcases Nat.lt_or_ge q A.length with x1 | x1
      · obtain rfl : B2 = [] := List.eq_nil_of_length_eq_zero (by omega)
        simp only [List.append_nil]; rw [ms_self hT sA1.2]; try simp
      · obtain rfl : A2 = [] := List.eq_nil_of_length_eq_zero (by omega)
        simp only [List.nil_append]; rw [ms_self hT sB1.2]; try simp
    have c1 : ∀ row, row = r0 → (q < A.length ∧ q < h) → ACall Try.prog 141 #[.slice (some ⟨r, 0, none⟩) n n, .int .i64 ((a + q : Nat) : Int), .int .i64 ((a + A.length : Nat) : Int), .int .i64 ((a + A.length + (h - q) : Nat) : Int), .func (.func g) #[] cap] (St m r kd s row) (Ret (.tuple #[]) (St m r kd s r1)) := fun row hrow hcc => by
      have hr0' : r0 = (P ++ A1) ++ A2 ++ B1 ++ (B2 ++ W) := by rw [hr0, hAA, hBB]; simp
      have hr1' : r1 = (P ++ A1) ++ B1 ++ A2 ++ (B2 ++ W) := by rw [hr1]; simp
      rw [hrow, hr0', hr1']
      exact f141_ok hr hkd _ _ _ n (P ++ A1) A2 B1 (B2 ++ W) (by rw [List.length_append]; omega) (by omega) (by omega) (by omega) (by omega) (by simp only [List.length_append]; omega) hlim
    have c2 : ∀ row, row = r1 → (0 < q ∧ q < h) → ACall Try.prog 129 #[.slice (some ⟨r, 0, none⟩) n n, .int .i64 (a : Nat), .int .i64 ((a + q : Nat) : Int), .int .i64 ((a + h : Nat) : Int), .func (.func g) #[] cap] (St m r kd s row) (Ret (.tuple #[]) (St m r kd s r2)) := fun row hrow hcc => by
      rw [hrow, hr1, hr2']
      exact ih a (a + q) (a + h) P A1 B1 (A2 ++ B2 ++ W) (by omega) ha (by omega) (by omega) (by omega) (by omega) (by simp only [List.length_append]; omega) (fun x hx => hpA x (mA1 x hx)) (fun x hx => hpB x (mB1 x hx)) (fun x hx y hy => hX x (mA1 x hx) y (mB1 y hy)) sA1.1 sB1.1
    have c3 : ∀ row, row = r2 → (q < A.length ∧ h - q < B.length) → ACall Try.prog 129 #[.slice (some ⟨r, 0, none⟩) n n, .int .i64 ((a + h : Nat) : Int), .int .i64 ((a + A.length + (h - q) : Nat) : Int), .int .i64 ((a + A.length + B.length : Nat) : Int), .func (.func g) #[] cap] (St m r kd s row) (Ret (.tuple #[]) (St m r kd s r3)) := fun row hrow hcc => by
      rw [hrow, hr2, hr3']
      exact ih (a + h) (a + A.length + (h - q)) (a + A.length + B.length) (P ++ ms le (A1 ++ B1)) A2 B2 W (by omega) (by rw [List.length_append, ms_len, List.length_append]; omega) (by omega) (by omega) (by omega) (by omega) (by simp only [List.length_append, ms_len]; omega) (fun x hx => hpA x (mA2 x hx)) (fun x hx => hpB x (mB2 x hx)) (fun x hx y hy => hX x (mA2 x hx) y (mB2 y hy)) sA1.2 sB1.2
    have g1 : ((a + h + (a + A.length) : Nat) : Int) - ((a + q : Nat) : Int) = ((a + A.length + (h - q) : Nat) : Int) := by omega
    rw [← hr0, ← hr3]
    clear hr0 hr1 hr2 hr3 hr2' hr3' hcut ih hX hpA hpB hn
    by_cases k1 : q < A.length <;> by_cases k2 : q < h <;> by_cases k3 : 0 < q <;> by_cases k4 : h - q < B.length
    all_goals first
      | (exfalso; omega)
      | ((repeat (first | (with_reducible refine AWo.cons ?_) | ((with_reducible refine Step.id ?_); first | ((with_reducible apply Step.gdT); exact rfl; exact rfl; (focus ((simp only [decide_eq_true_eq, decide_eq_false_iff_not, Bool.not_eq_true', Bool.not_eq_false', Bool.not_true, Bool.not_false]; first | assumption | omega)))) | ((with_reducible apply Step.gdF); exact rfl; exact rfl; (focus ((simp only [decide_eq_true_eq, decide_eq_false_iff_not, Bool.not_eq_true', Bool.not_eq_false', Bool.not_true, Bool.not_false]; first | assumption | omega)))) | ((with_reducible apply Step.move); exact rfl; exact rfl) | ((with_reducible apply Step.assign); exact rfl; exact rfl) | ((with_reducible apply Step.subE); exact rfl; exact rfl; (focus (assumption)); (focus (omega)); exact rfl) | ((with_reducible apply Step.lss); exact rfl; exact rfl; exact rfl) | ((with_reducible apply Step.pickT); exact rfl; exact rfl; exact rfl; exact rfl; (focus ((simp only [decide_eq_true_eq, decide_eq_false_iff_not, Bool.not_eq_true', Bool.not_eq_false', Bool.not_true, Bool.not_false]; first | assumption | omega)))) | ((with_reducible apply Step.pickF); exact rfl; exact rfl; exact rfl; exact rfl; (focus ((simp only [decide_eq_true_eq, decide_eq_false_iff_not, Bool.not_eq_true', Bool.not_eq_false', Bool.not_true, Bool.not_false]; first | assumption | omega)))) | ((with_reducible apply Step.callM fit); exact rfl; exact Try.func141; exact rfl; exact rfl; exact ((c1 _ rfl (by omega)))) | ((with_reducible apply Step.callM fit); exact rfl; exact Try.func129; exact rfl; exact rfl; exact ((c2 _ (by first | rfl | exact n1 (by omega)) (by omega)))) | ((with_reducible apply Step.callM fit); exact rfl; exact Try.func129; exact rfl; exact rfl; exact ((c3 _ (by first | rfl | exact n2 (by omega) | exact (n1 (by omega)).trans (n2 (by omega))) (by omega))))) | (with_reducible refine AWo.nil ?_) | ((with_reducible apply AW.seq)) | ((with_reducible apply Then.n)) | ((with_reducible apply AW.regL)) | ((with_reducible apply AW.exit)) | ((with_reducible apply InBlk.hit)) | ((with_reducible apply Then.e)) | ((with_reducible apply AW.skip)) | ((with_reducible apply AW.condT); exact rfl; (focus ((simp only [decide_eq_true_eq, decide_eq_false_iff_not, Bool.not_eq_true', Bool.not_eq_false', Bool.not_true, Bool.not_false]; first | assumption | omega)))) | ((with_reducible apply AW.condF); exact rfl; (focus (first | rfl | (simp only [decide_eq_true_eq, decide_eq_false_iff_not, Bool.not_eq_true', Bool.not_eq_false', Bool.not_true, Bool.not_false]; first | assumption | omega))))))
         refine ⟨_, rfl, rfl, ?_⟩
         first | rfl | (rw [n3 (by omega)]; done) | (rw [n2 (by omega), n3 (by omega)]; done) | (rw [n1 (by omega), n2 (by omega), n3 (by omega)]; done) | (rw [n2 (by omega)]; done))
end
end Go.Proofs.Ytmomjannlnafcaa.Abs
namespace Go.Proofs.Ytmomjannlnafcaa.Abs
set_option linter.unusedSimpArgs false
set_option linter.unusedVariables false
open Go.RowKit
open Go.Proofs.Ytmomjannlnafcaa.Sim
open Go.Proofs
section
variable {m : AM} {r s : Nat} {kd : Kind} {le : Int → Int → Bool} {c : Int → Int → Int} {p : Int → Prop} {g : FuncId} {cap : Array Value} {fn : Func} {bd : Code}
theorem ms_nil : ms le [] = [] := by simp [ms]
set_option maxHeartbeats 4000000 in
set_option maxRecDepth 100000 in
theorem f122_ok (hC : CmpOk m r s kd c p g cap) (hT : TO le) (hf : Try.prog.funcs[g]? = some fn) (hb : fn.body = some bd) (n : Nat) (l : List Int) (hl : l.length = n) (hn : n ≤ 40) (hp : ∀ x ∈ l, p x) (hX : l.Pairwise (Cross le c)) :
    ACall Try.prog 122 #[.slice (some ⟨r, 0, none⟩) n n, .int .i64 (n : Nat), .func (.func g) #[] cap] (St m r kd s l) (Ret (.tuple #[]) (St m r kd s (ms le l))) := by
  have hr := hC.hr; have hkd := hC.hkd
  obtain ⟨T, hT'⟩ : ∃ T, T = l.take 20 := ⟨_, rfl⟩
  obtain ⟨D, hD'⟩ : ∃ D, D = l.drop 20 := ⟨_, rfl⟩
  have hTD : l = T ++ D := by rw [hT', hD', List.take_append_drop]
  have lT : T.length = min 20 n := by rw [hT']; simp; omega
  have lD : D.length = n - 20 := by rw [hD']; simp; omega
  clear hT' hD'
  subst hTD
  rw [List.pairwise_append] at hX
  obtain ⟨xT, xD, xTD⟩ := hX
  have pT : ∀ x ∈ T, p x := fun x hx => hp x (by simp [hx])
  have pD : ∀ x ∈ D, p x := fun x hx => hp x (by simp [hx])
  have i1 : 20 ≤ n → ACall Try.prog 128 #[.slice (some ⟨r, 0, none⟩) n n, .int .i64 ((0 : Nat) : Int), .int .i64 ((20 : Nat) : Int), .func (.func g) #[] cap] (St m r kd s (T ++ D)) (Ret (.tuple #[]) (St m r kd s (ms le T ++ D))) := fun h =>
    f128_ok hC hT hf hb 0 20 n [] T D rfl (by omega) hl (by omega) pT xT
  have i2 : n < 20 → ACall Try.prog 128 #[.slice (some ⟨r, 0, none⟩) n n, .int .i64 ((0 : Nat) : Int), .int .i64 (n : Nat), .func (.func g) #[] cap] (St m r kd s (T ++ D)) (Ret (.tuple #[]) (St m r kd s (ms le T ++ D))) := fun h =>
    f128_ok hC hT hf hb 0 n n [] T D rfl (by omega) hl (by omega) pT xT
  have i3 : 20 ≤ n → ACall Try.prog 128 #[.slice (some ⟨r, 0, none⟩) n n, .int .i64 ((20 : Nat) : Int), .int .i64 (n : Nat), .func (.func g) #[] cap] (St m r kd s (ms le T ++ D)) (Ret (.tuple #[]) (St m r kd s (ms le T ++ ms le D))) := fun h => by
    have := f128_ok hC hT hf hb 20 n n (ms le T) D [] (by rw [ms_len]; omega) (by omega) (by simp only [List.length_append, ms_len, List.length_nil]; omega) (by omega) pD xD
    simpa only [List.append_nil] using this
  have i4 : n = 40 → ACall Try.prog 128 #[.slice (some ⟨r, 0, none⟩) n n, .int .i64 ((40 : Nat) : Int), .int .i64 (n : Nat), .func (.func g) #[] cap] (St m r kd s (ms le T ++ ms le D)) (Ret (.tuple #[]) (St m r kd s (ms le T ++ ms le D))) := fun h => by
    have := f128_ok (le := le) hC hT hf hb 40 n n (ms le T ++ ms le D) [] [] (by simp only [List.length_append, ms_len]; omega) (by simp; omega) (by simp only [List.length_append, ms_len, List.length_nil]; omega) (by omega) (by simp) (by simp)
    simpa only [ms_nil, List.append_nil] using this
  have j1 : 20 < n → ACall Try.prog 129 #[.slice (some ⟨r, 0, none⟩) n n, .int .i64 ((0 : Nat) : Int), .int .i64 ((20 : Nat) : Int), .int .i64 (n : Nat), .func (.func g) #[] cap] (St m r kd s (ms le T ++ ms le D)) (Ret (.tuple #[]) (St m r kd s (ms le (T ++ D)))) := fun h => by
    have := f129_ok hC hT hf hb n (by omega) _ 0 20 n [] (ms le T) (ms le D) [] (Nat.le_refl _) rfl (by rw [ms_len]; omega) (by rw [ms_len]; omega) (by rw [ms_len]; omega) (by rw [ms_len]; omega) (by simp only [List.length_append, ms_len, List.length_nil]; omega)
      (fun x hx => pT x (ms_mem.1 hx)) (fun x hx => pD x (ms_mem.1 hx)) (fun x hx y hy => xTD x (ms_mem.1 hx) y (ms_mem.1 hy)) (ms_srt hT) (ms_srt hT)
    have e : ms le (ms le T ++ ms le D) = ms le (T ++ D) := ms_congr hT (List.Perm.append ms_perm ms_perm)
    rw [e] at this
    simpa only [List.append_nil, List.nil_append] using this
  have k1 : n ≤ 20 → ms le T ++ ms le D = ms le (T ++ D) := fun h => by
    obtain rfl : D = [] := List.eq_nil_of_length_eq_zero (by omega)
    simp [ms_nil]
  have k2 : n < 20 → ms le T ++ D = ms le T ++ ms le D := fun h => by
    obtain rfl : D = [] := List.eq_nil_of_length_eq_zero (by omega)
    simp [ms_nil]
  clear xT xD xTD pT pD hp
  refine ACall.intro Try.func122 rfl (Nat.le_of_ble_eq_true rfl) ?_
  (repeat (first | (with_reducible refine AWo.cons ?_) | ((with_reducible refine Step.id ?_); first | ((with_reducible apply Step.move); exact rfl; exact rfl) | ((with_reducible apply Step.assign); exact rfl; exact rfl)) | (with_reducible refine AWo.nil ?_) | ((with_reducible apply AW.seq)) | ((with_reducible apply Then.n)) | ((with_reducible apply AW.regL)) | ((with_reducible apply AW.block))))
  refine AW.loopW (fun u t M => ∃ (a : Nat) (row : List Int), u = 60 - a ∧ (a = 0 ∧ row = T ++ D ∨ a = 20 ∧ 20 ≤ n ∧ row = ms le T ++ D ∨ a = 40 ∧ n = 40 ∧ row = ms le T ++ ms le D) ∧
    t = fr [(0, .slice (some ⟨r, 0, none⟩) n n), (1, .int .i64 (n : Nat)), (2, .func (.func g) #[] cap), (6, .int .i64 20), (7, .int .i64 ((a : Nat) : Int)), (8, .int .i64 ((a + 20 : Nat) : Int))] ∧ M = St m r kd s row) ⟨_, _, (by repeat (first | exact trivial | (refine And.intro rfl ?_))), 0, _, rfl, .inl ⟨rfl, rfl⟩, rfl, rfl⟩ ?_
  rintro u t M ⟨a, row, rfl, hcase, rfl, rfl⟩
  have e1 : ((a + 20 : Nat) : Int) + 20 = ((a + 20 + 20 : Nat) : Int) := by omega
  by_cases hcont : a + 20 ≤ n
  · rcases hcase with ⟨rfl, rfl⟩ | ⟨rfl, _, rfl⟩ | ⟨rfl, _, rfl⟩
    · (repeat (first | (with_reducible refine AWo.cons ?_) | ((with_reducible refine Step.id ?_); first | ((with_reducible apply Step.move); exact rfl; exact rfl) | ((with_reducible apply Step.assign); exact rfl; exact rfl) | ((with_reducible apply Step.addE); exact rfl; exact rfl; (focus (assumption)); (focus (omega)); exact rfl) | ((with_reducible apply Step.leq); exact rfl; exact rfl; exact rfl) | ((with_reducible apply Step.callM fit); exact rfl; exact Try.func128; exact rfl; exact rfl; exact ((i1 (by omega))))) | (with_reducible refine AWo.nil ?_) | ((with_reducible apply AW.seq)) | ((with_reducible apply Then.n)) | ((with_reducible apply AW.regL)) | ((with_reducible apply AW.block)) | ((with_reducible apply InBlk.n)) | ((with_reducible apply AW.skip)) | ((with_reducible apply AW.condT); exact rfl; (focus ((simp only [decide_eq_true_eq, decide_eq_false_iff_not, Bool.not_eq_true', Bool.not_eq_false', Bool.not_true, Bool.not_false]; first | assumption | omega))))))
      exact ⟨_, _, by omega, (by repeat (first | exact trivial | (refine And.intro rfl ?_))), 20, _, rfl, .inr (.inl ⟨rfl, by omega, rfl⟩), rfl, rfl⟩
    · obtain rfl : n = 40 := by omega
      (repeat (first | (with_reducible refine AWo.cons ?_) | ((with_reducible refine Step.id ?_); first | ((with_reducible apply Step.move); exact rfl; exact rfl) | ((with_reducible apply Step.assign); exact rfl; exact rfl) | ((with_reducible apply Step.addE); exact rfl; exact rfl; (focus (assumption)); (focus (omega)); exact rfl) | ((with_reducible apply Step.leq); exact rfl; exact rfl; exact rfl) | ((with_reducible apply Step.callM fit); exact rfl; exact Try.func128; exact rfl; exact rfl; exact ((i3 (by omega))))) | (with_reducible refine AWo.nil ?_) | ((with_reducible apply AW.seq)) | ((with_reducible apply Then.n)) | ((with_reducible apply AW.regL)) | ((with_reducible apply AW.block)) | ((with_reducible apply InBlk.n)) | ((with_reducible apply AW.skip)) | ((with_reducible apply AW.condT); exact rfl; (focus (rfl)))))
      exact ⟨_, _, by omega, (by repeat (first | exact trivial | (refine And.intro rfl ?_))), 40, _, rfl, .inr (.inr ⟨rfl, rfl, rfl⟩), rfl, rfl⟩
    · omega
  · have fin : ∀ K : AM → Prop, (∀ row, row = ms le T ++ ms le D → K (St m r kd s row)) → K (St m r kd s (ms le T ++ ms le D)) := fun K h => h _ rfl
    have ins : ∃ row', ACall Try.prog 128 #[.slice (some ⟨r, 0, none⟩) n n, .int .i64 ((a : Nat) : Int), .int .i64 (n : Nat), .func (.func g) #[] cap] (St m r kd s row) (Ret (.tuple #[]) (St m r kd s row')) ∧ row' = ms le T ++ ms le D := by
      rcases hcase with ⟨rfl, rfl⟩ | ⟨rfl, _, rfl⟩ | ⟨rfl, _, rfl⟩
      · exact ⟨_, i2 (by omega), k2 (by omega)⟩
      · exact ⟨_, i3 (by omega), rfl⟩
      · exact ⟨_, i4 (by omega), rfl⟩
    obtain ⟨row', ins, hrow'⟩ := ins
    clear fin hcase
    (repeat (first | (with_reducible refine AWo.cons ?_) | ((with_reducible refine Step.id ?_); first | ((with_reducible apply Step.move); exact rfl; exact rfl) | ((with_reducible apply Step.leq); exact rfl; exact rfl; exact rfl) | ((with_reducible apply Step.callM fit); exact rfl; exact Try.func128; exact rfl; exact rfl; exact (ins))) | (with_reducible refine AWo.nil ?_) | ((with_reducible apply AW.seq)) | ((with_reducible apply Then.n)) | ((with_reducible apply AW.regL)) | ((with_reducible apply AW.block)) | ((with_reducible apply AW.exit)) | ((with_reducible apply InBlk.hit)) | ((with_reducible apply Then.e)) | ((with_reducible apply AW.condF); exact rfl; (focus ((simp only [decide_eq_true_eq, decide_eq_false_iff_not, Bool.not_eq_true', Bool.not_eq_false', Bool.not_true, Bool.not_false]; first | assumption | omega))))))
    refine AW.loopW (fun u t M => ∃ (bs : Nat) (row : List Int), u = 60 - bs ∧ (bs = 20 ∧ row = ms le T ++ ms le D ∨ bs = 40 ∧ row = ms le (T ++ D)) ∧
      t = fr [(0, .slice (some ⟨r, 0, none⟩) n n), (1, .int .i64 (n : Nat)), (2, .func (.func g) #[] cap), (6, .int .i64 ((bs : Nat) : Int))] ∧ M = St m r kd s row) ⟨_, _, (by repeat (first | exact trivial | (refine And.intro rfl ?_))), 20, _, rfl, .inl ⟨rfl, hrow'⟩, rfl, rfl⟩ ?_
    rintro u t M ⟨bs, row, rfl, hcase, rfl, rfl⟩
    by_cases hgo : bs < n
    · obtain ⟨rfl, rfl⟩ : bs = 20 ∧ row = ms le T ++ ms le D := by
        rcases hcase with h | ⟨h, _⟩
        · exact h
        · omega
      have e2 : (2 : Int) * ((20 : Nat) : Int) = ((40 : Nat) : Int) := by omega
      have e3 : ((20 : Nat) : Int) * (2 : Int) = ((40 : Nat) : Int) := by omega
      (repeat (first | (with_reducible refine AWo.cons ?_) | ((with_reducible refine Step.id ?_); first | ((with_reducible apply Step.move); exact rfl; exact rfl) | ((with_reducible apply Step.assign); exact rfl; exact rfl) | ((with_reducible apply Step.mulE); exact rfl; exact rfl; (focus (assumption)); (focus (omega)); exact rfl) | ((with_reducible apply Step.lss); exact rfl; exact rfl; exact rfl)) | (with_reducible refine AWo.nil ?_) | ((with_reducible apply AW.seq)) | ((with_reducible apply Then.n)) | ((with_reducible apply AW.regL)) | ((with_reducible apply AW.block)) | ((with_reducible apply AW.skip)) | ((with_reducible apply AW.condT); exact rfl; (focus ((simp only [decide_eq_true_eq, decide_eq_false_iff_not, Bool.not_eq_true', Bool.not_eq_false', Bool.not_true, Bool.not_false]; first | assumption | omega))))))
      refine AW.loopW (fun u t M => ∃ (a : Nat) (row : List Int), u = 60 - a ∧ (a = 0 ∧ row = ms le T ++ ms le D ∨ a = 40 ∧ n = 40 ∧ row = ms le (T ++ D)) ∧
        t = fr [(0, .slice (some ⟨r, 0, none⟩) n n), (1, .int .i64 (n : Nat)), (2, .func (.func g) #[] cap), (6, .int .i64 ((20 : Nat) : Int)), (7, .int .i64 ((a : Nat) : Int)), (8, .int .i64 ((a + 40 : Nat) : Int))] ∧ M = St m r kd s row) ⟨_, _, (by repeat (first | exact trivial | (refine And.intro rfl ?_))), 0, _, rfl, .inl ⟨rfl, rfl⟩, rfl, rfl⟩ ?_
      rintro u t M ⟨a, row, rfl, hcase, rfl, rfl⟩
      have e4 : ((a + 40 : Nat) : Int) + ((40 : Nat) : Int) = ((a + 40 + 40 : Nat) : Int) := by omega
      have e5 : ((a : Nat) : Int) + ((20 : Nat) : Int) = ((a + 20 : Nat) : Int) := by omega
      rcases hcase with ⟨rfl, rfl⟩ | ⟨rfl, h40, rfl⟩
      · by_cases h40 : n = 40
        · subst h40
          (repeat (first | (with_reducible refine AWo.cons ?_) | ((with_reducible refine Step.id ?_); first | ((with_reducible apply Step.move); exact rfl; exact rfl) | ((with_reducible apply Step.assign); exact rfl; exact rfl) | ((with_reducible apply Step.addE); exact rfl; exact rfl; (focus (assumption)); (focus (omega)); exact rfl) | ((with_reducible apply Step.mulE); exact rfl; exact rfl; (focus (assumption)); (focus (omega)); exact rfl) | ((with_reducible apply Step.leq); exact rfl; exact rfl; exact rfl) | ((with_reducible apply Step.callM fit); exact rfl; exact Try.func129; exact rfl; exact rfl; exact ((j1 (by omega))))) | (with_reducible refine AWo.nil ?_) | ((with_reducible apply AW.seq)) | ((with_reducible apply Then.n)) | ((with_reducible apply AW.regL)) | ((with_reducible apply AW.block)) | ((with_reducible apply InBlk.n)) | ((with_reducible apply AW.skip)) | ((with_reducible apply AW.condT); exact rfl; (focus (rfl)))))
          exact ⟨_, _, by omega, (by repeat (first | exact trivial | (refine And.intro rfl ?_))), 40, _, rfl, .inr ⟨rfl, rfl, rfl⟩, rfl, rfl⟩
        · (repeat (first | (with_reducible refine AWo.cons ?_) | ((with_reducible refine Step.id ?_); first | ((with_reducible apply Step.move); exact rfl; exact rfl) | ((with_reducible apply Step.assign); exact rfl; exact rfl) | ((with_reducible apply Step.addE); exact rfl; exact rfl; (focus (assumption)); (focus (omega)); exact rfl) | ((with_reducible apply Step.mulE); exact rfl; exact rfl; (focus (assumption)); (focus (omega)); exact rfl) | ((with_reducible apply Step.lss); exact rfl; exact rfl; exact rfl) | ((with_reducible apply Step.leq); exact rfl; exact rfl; exact rfl) | ((with_reducible apply Step.callM fit); exact rfl; exact Try.func129; exact rfl; exact rfl; exact ((j1 (by omega))))) | (with_reducible refine AWo.nil ?_) | ((with_reducible apply AW.seq)) | ((with_reducible apply Then.n)) | ((with_reducible apply AW.regL)) | ((with_reducible apply AW.exit)) | ((with_reducible apply InBlk.n)) | ((with_reducible apply InBlk.hit)) | ((with_reducible apply Then.e)) | ((with_reducible apply AW.condT); exact rfl; (focus ((simp only [decide_eq_true_eq, decide_eq_false_iff_not, Bool.not_eq_true', Bool.not_eq_false', Bool.not_true, Bool.not_false]; first | assumption | omega)))) | ((with_reducible apply AW.condF); exact rfl; (focus ((simp only [decide_eq_true_eq, decide_eq_false_iff_not, Bool.not_eq_true', Bool.not_eq_false', Bool.not_true, Bool.not_false]; first | assumption | omega))))))
          exact ⟨_, _, by omega, (by repeat (first | exact trivial | (refine And.intro rfl ?_))), 40, _, rfl, .inr ⟨rfl, rfl⟩, rfl, rfl⟩
      · (repeat (first | (with_reducible refine AWo.cons ?_) | ((with_reducible refine Step.id ?_); first | ((with_reducible apply Step.move); exact rfl; exact rfl) | ((with_reducible apply Step.assign); exact rfl; exact rfl) | ((with_reducible apply Step.addE); exact rfl; exact rfl; (focus (assumption)); (focus (omega)); exact rfl) | ((with_reducible apply Step.mulE); exact rfl; exact rfl; (focus (assumption)); (focus (omega)); exact rfl) | ((with_reducible apply Step.lss); exact rfl; exact rfl; exact rfl) | ((with_reducible apply Step.leq); exact rfl; exact rfl; exact rfl)) | (with_reducible refine AWo.nil ?_) | ((with_reducible apply AW.seq)) | ((with_reducible apply Then.n)) | ((with_reducible apply AW.regL)) | ((with_reducible apply AW.exit)) | ((with_reducible apply InBlk.n)) | ((with_reducible apply InBlk.hit)) | ((with_reducible apply Then.e)) | ((with_reducible apply AW.skip)) | ((with_reducible apply AW.condF); exact rfl; (focus ((simp only [decide_eq_true_eq, decide_eq_false_iff_not, Bool.not_eq_true', Bool.not_eq_false', Bool.not_true, Bool.not_false]; first | assumption | omega))))))
        exact ⟨_, _, by omega, (by repeat (first | exact trivial | (refine And.intro rfl ?_))), 40, _, rfl, .inr ⟨rfl, rfl⟩, rfl, rfl⟩
    · (repeat (first | (with_reducible refine AWo.cons ?_) | ((with_reducible refine Step.id ?_); first | ((with_reducible apply Step.move); exact rfl; exact rfl) | ((with_reducible apply Step.lss); exact rfl; exact rfl; exact rfl)) | (with_reducible refine AWo.nil ?_) | ((with_reducible apply AW.seq)) | ((with_reducible apply Then.n)) | ((with_reducible apply AW.regL)) | ((with_reducible apply AW.exit)) | ((with_reducible apply InBlk.hit)) | ((with_reducible apply Then.e)) | ((with_reducible apply AW.condF); exact rfl; (focus ((simp only [decide_eq_true_eq, decide_eq_false_iff_not, Bool.not_eq_true', Bool.not_eq_false', Bool.not_true, Bool.not_false]; first | assumption | omega))))))
      refine ⟨_, rfl, rfl, ?_⟩
      rcases hcase with ⟨rfl, rfl⟩ | ⟨rfl, rfl⟩
      · rw [k1 (by omega)]
      · rfl
set_option maxRecDepth 100000 in
theorem stable_ok (hC : CmpOk m r s kd c p g cap) (hT : TO le) (hf : Try.prog.funcs[g]? = some fn) (hb : fn.body = some bd) (n : Nat) (l : List Int) (hl : l.length = n) (hn : n ≤ 40) (hp : ∀ x ∈ l, p x) (hX : l.Pairwise (Cross le c)) :
    ACall Try.prog 101 #[.slice (some ⟨r, 0, none⟩) n n, .func (.func g) #[] cap] (St m r kd s l) (Ret (.tuple #[]) (St m r kd s (ms le l))) := by
  refine ACall.intro Try.func101 rfl (Nat.le_of_ble_eq_true rfl) ?_
  (repeat (first | (with_reducible refine AWo.cons ?_) | ((with_reducible refine Step.id ?_); first | ((with_reducible apply Step.move); exact rfl; exact rfl) | ((with_reducible apply Step.len); exact rfl; (focus (exact Sl.mk (by omega))); (focus (decide +kernel)); exact rfl) | ((with_reducible apply Step.callM fit); exact rfl; exact Try.func122; exact rfl; exact rfl; exact ((f122_ok hC hT hf hb n l hl hn hp hX)))) | (with_reducible refine AWo.nil ?_) | ((with_reducible apply AW.regL))))
  exact ⟨_, rfl, rfl, rfl⟩
end
end Go.Proofs.Ytmomjannlnafcaa.Abs
namespace Go.Proofs.Ytmomjannlnafcaa.Abs
set_option linter.unusedSimpArgs false
set_option linter.unusedVariables false
open Go.RowKit
open Go.Proofs.Ytmomjannlnafcaa.Sim
/-- A tree of orders. -/
inductive PT where
  | done
  | step (i : Nat) (rest : PT)
  | both (a b : PT)
deriving DecidableEq
def forkT (g : Nat → Option PT) : List Nat → Option PT
  | [] => none
  | [i] => (g i).map (.step i)
  | i :: rs => match g i, forkT g rs with
    | some a, some b => some (.both (.step i a) b)
    | _, _ => none
def planT (P : Program) (ops : Array Oper) : Nat → Array Bool → Option PT
  | 0, listed => match Region.ready .any ops listed with
    | [] => some .done
    | _ => none
  | f + 1, listed => match Region.ready .any ops listed with
    | [] => some .done
    | rs => match rs.find? (takeB P ops listed) with
      | some i => (planT P ops f (listed.setIfInBounds i true)).map (.step i)
      | none => forkT (fun i => planT P ops f (listed.setIfInBounds i true)) rs
def AWt (P : Program) (nt : Nat) (l : List Oper) (Q : Fm → AM → Prop) : PT → Fm → AM → Prop
  | .done, t, m => Q t m
  | .step i rest, t, m => ∃ o, l[i]? = some o ∧ Step P nt l.toArray o t m (fun t m => AWt P nt l Q rest t m)
  | .both a b, t, m => AWt P nt l Q a t m ∧ AWt P nt l Q b t m
section
variable {P : Program} {nt : Nat} {t : Fm} {m m0 : AM} {Q : Fm → AM → Prop} {l : List Oper}
theorem forkT_ok {g : Nat → Option PT} : ∀ {rs : List Nat} {T : PT}, forkT g rs = some T → AWt P nt l Q T t m → ∀ i ∈ rs, ∃ a, g i = some a ∧ AWt P nt l Q (.step i a) t m
  | [], _, h, _, i, hi => by cases hi
  | [j], T, h, H, i, hi => by
    simp only [forkT, Option.map_eq_some_iff] at h
    obtain ⟨a, h1, rfl⟩ := h
    obtain rfl : i = j := by simpa using hi
    exact ⟨a, h1, H⟩
  | j :: k :: rs, T, h, H, i, hi => by
    simp only [forkT] at h
    split at h
    · rename_i a b h1 h2
      injection h with h; subst h
      rcases List.mem_cons.1 hi with rfl | hi
      · exact ⟨a, h1, H.1⟩
      · exact forkT_ok h2 H.2 i hi
    · cases h
theorem planT_ok : ∀ (f : Nat) (listed : Array Bool) (T : PT) (t : Fm) (m : AM), listed.size = l.toArray.size → planT P l.toArray f listed = some T → AWt P nt l Q T t m → AWd P nt l.toArray Q f listed t m
  | 0, listed, T, t, m, hsz, h, H => by
    unfold planT at h
    split at h
    · rename_i hr
      injection h with h; subst h
      exact ⟨hr, H⟩
    · cases h
  | f + 1, listed, T, t, m, hsz, h, H => by
    unfold planT at h
    split at h
    · rename_i hr
      injection h with h; subst h
      exact ⟨fun _ => H, fun i hi => by rw [hr] at hi; cases hi⟩
    · rename_i hne
      split at h
      · rename_i i hfind
        cases hp : planT P l.toArray f (listed.setIfInBounds i true) with
        | none => rw [hp] at h; cases h
        | some T' =>
          rw [hp] at h
          simp only [Option.map_some, Option.some.injEq] at h
          subst h
          obtain ⟨o, ho', hs⟩ := H
          have ho : l.toArray[i]? = some o := by simpa using ho'
          have hr := List.mem_of_find?_eq_some hfind
          have ht := List.find?_some hfind
          unfold takeB at ht
          rw [ho] at ht
          simp only [Bool.and_eq_true] at ht
          obtain ⟨t1, t2⟩ := ht
          obtain ⟨v, hy, hk⟩ := hs.still t1
          have hih := planT_ok f _ _ _ _ (by simpa using hsz) hp hk
          generalize closeC l.toArray i l.toArray.size listed = C at t2
          unfold takeC at t2
          rw [List.all_eq_true] at t2
          have each : ∀ (j : Nat) (oj : Oper), l.toArray[j]? = some oj → _ := fun j oj hj => by
            have := t2 j (List.mem_range.2 (Array.getElem?_eq_some_iff.1 hj).1)
            rw [hj] at this
            exact this
          simp only [Bool.and_eq_true, Bool.or_eq_true] at each
          refine AWd.take ho hs.1 C listed (fun j oj hj hc hne => ?_) (fun j oj hj hc hl hne => ?_) f listed t m (fun j hj => ?_) (fun _ h => h) hr hy hih
          · have h1 := (each j oj hj).2
            rcases h1 with h1 | h1
            · exact absurd (Nat.eq_of_beq_eq_true h1) hne
            · rw [hc] at h1
              simp only at h1
              obtain ⟨e, he, hb⟩ := Array.any_eq_true'.1 h1
              simp only [Bool.and_eq_true, Bool.not_eq_true'] at hb
              exact ⟨e, he, hb.1, hb.2⟩
          · have h1 := (each j oj hj).2
            rcases h1 with h1 | h1
            · exact absurd (Nat.eq_of_beq_eq_true h1) hne
            · rw [hc] at h1
              simp only [hl, Bool.false_or, Bool.and_eq_true, Bool.or_eq_true] at h1
              exact h1
          · have hlt : j < l.toArray.size := by
              rw [← hsz]
              rcases Nat.lt_or_ge j listed.size with h' | h'
              · exact h'
              · simp [Array.getElem?_eq_none h'] at hj
            have h1 := (each j l.toArray[j] (Array.getElem?_eq_getElem hlt)).1
            rw [hj] at h1
            simpa using h1
      · refine ⟨fun h0 => absurd h0 hne, fun j hj oj hoj => ?_⟩
        obtain ⟨a, ha, o, ho', hs⟩ := forkT_ok h H j hj
        have ho : l.toArray[j]? = some o := by simpa using ho'
        rw [ho] at hoj; injection hoj with hoj; subst hoj
        exact hs.mono fun v m' hk => planT_ok f _ _ _ _ (by simpa using hsz) ha hk
def treeB (P : Program) (ops : Array Oper) (T : PT) : Bool := match planT P ops ops.size (Array.replicate ops.size false) with
  | some T' => decide (T' = T)
  | none => false
/-- A region that draws, in all orders that count. -/
theorem AW.drawT (hP : Fit P) (T : PT) {id : Nat} {Q : AEx → Fm → AM → Prop} (hl : treeB P l.toArray T = true) (h : AWt P nt l (fun t m => Q .normal t m) T t m) : AW P nt m0 (.region id l.toArray true) t m Q := by
  unfold treeB at hl
  split at hl
  · rename_i T' hq
    have e := of_decide_eq_true hl
    subst e
    exact .all hP (planT_ok _ _ _ _ _ (by simp) hq h)
  · cases hl
theorem AWt.step {i : Nat} {rest : PT} {o : Oper} (ho : l[i]? = some o) (h : Step P nt l.toArray o t m (fun t m => AWt P nt l Q rest t m)) : AWt P nt l Q (.step i rest) t m := ⟨o, ho, h⟩
theorem AWt.both {a b : PT} (h1 : AWt P nt l Q a t m) (h2 : AWt P nt l Q b t m) : AWt P nt l Q (.both a b) t m := ⟨h1, h2⟩
theorem AWt.done (h : Q t m) : AWt P nt l Q .done t m := h
end
end Go.Proofs.Ytmomjannlnafcaa.Abs
namespace Go.Proofs.Ytmomjannlnafcaa.Abs
set_option linter.unusedSimpArgs false
set_option linter.unusedVariables false
open Go.RowKit
open Go.Proofs.Ytmomjannlnafcaa.Sim
open Go.Proofs
def cmpI (x y : Int) : Int := if x < y then -1 else if y < x then 1 else 0
set_option maxRecDepth 100000 in
theorem isNaN_ok {m : AM} (x : Int) : ACall Try.prog 103 #[.int .i64 x] m (Ret (.bool false) m) := by
  refine ACall.start Try.func103 rfl rfl ?_
  (repeat (first | (with_reducible refine AWo.cons ?_) | ((with_reducible refine Step.id ?_); first | ((with_reducible apply Step.move); exact rfl; exact rfl) | ((with_reducible apply Step.assign); exact rfl; exact rfl) | ((with_reducible apply Step.neq); exact rfl; exact rfl; exact rfl)) | (with_reducible refine AWo.nil ?_) | ((with_reducible apply AW.seq)) | ((with_reducible apply Then.n)) | ((with_reducible apply AW.regL))))
  (refine AW.retD (l := [(2, _)]) (by repeat (first | exact trivial | (refine And.intro ⟨rfl, by (exact .bool _)⟩ ?_))) ?_; (repeat (first | refine Then.r ?_ | refine InBlk.r ?_)))
  exact ⟨_, rfl, by simp, rfl⟩
set_option maxRecDepth 100000 in
theorem compare_ok {m : AM} (x y : Int) {r : Int} (hr : cmpI x y = r) : ACall Try.prog 68 #[.int .i64 x, .int .i64 y] m (Ret (.int .i64 r) m) := by
  subst hr
  refine ACall.start Try.func68 rfl rfl ?_
  by_cases h1 : x < y
  · (repeat (first | (with_reducible refine AWo.cons ?_) | ((with_reducible refine Step.id ?_); first | ((with_reducible apply Step.move); exact rfl; exact rfl) | ((with_reducible apply Step.assign); exact rfl; exact rfl) | ((with_reducible apply Step.lss); exact rfl; exact rfl; exact rfl) | ((with_reducible apply Step.callR fit); exact rfl; exact Try.func103; exact rfl; exact rfl; exact (isNaN_ok _))) | (with_reducible refine AWo.nil ?_) | ((with_reducible apply AW.seq)) | ((with_reducible apply Then.n)) | ((with_reducible apply AW.regL)) | ((with_reducible apply AW.skip)) | ((with_reducible apply AW.condT); exact rfl; (focus ((simp only [decide_eq_true_eq, decide_eq_false_iff_not, Bool.not_eq_true', Bool.not_eq_false', Bool.not_true, Bool.not_false]; first | assumption | omega)))) | ((with_reducible apply AW.condF); exact rfl; (focus (rfl)))))
    (refine AW.retD (l := [(4, _)]) (by repeat (first | exact trivial | (refine And.intro ⟨rfl, by (exact .int _ _)⟩ ?_))) ?_; (repeat (first | refine Then.r ?_ | refine InBlk.r ?_)))
    exact ⟨_, rfl, by simp [cmpI, h1], rfl⟩
  · by_cases h2 : y < x
    · (repeat (first | (with_reducible refine AWo.cons ?_) | ((with_reducible refine Step.id ?_); first | ((with_reducible apply Step.move); exact rfl; exact rfl) | ((with_reducible apply Step.assign); exact rfl; exact rfl) | ((with_reducible apply Step.lss); exact rfl; exact rfl; exact rfl) | ((with_reducible apply Step.gtr); exact rfl; exact rfl; exact rfl) | ((with_reducible apply Step.callR fit); exact rfl; exact Try.func103; exact rfl; exact rfl; exact (isNaN_ok _))) | (with_reducible refine AWo.nil ?_) | ((with_reducible apply AW.seq)) | ((with_reducible apply Then.n)) | ((with_reducible apply AW.regL)) | ((with_reducible apply AW.skip)) | ((with_reducible apply AW.condT); exact rfl; (focus ((simp only [decide_eq_true_eq, decide_eq_false_iff_not, Bool.not_eq_true', Bool.not_eq_false', Bool.not_true, Bool.not_false]; first | assumption | omega)))) | ((with_reducible apply AW.condF); exact rfl; (focus (first | rfl | (simp only [decide_eq_true_eq, decide_eq_false_iff_not, Bool.not_eq_true', Bool.not_eq_false', Bool.not_true, Bool.not_false]; first | assumption | omega))))))
      (refine AW.retD (l := [(4, _)]) (by repeat (first | exact trivial | (refine And.intro ⟨rfl, by (exact .int _ _)⟩ ?_))) ?_; (repeat (first | refine Then.r ?_ | refine InBlk.r ?_)))
      exact ⟨_, rfl, by simp [cmpI, h1, h2], rfl⟩
    · (repeat (first | (with_reducible refine AWo.cons ?_) | ((with_reducible refine Step.id ?_); first | ((with_reducible apply Step.move); exact rfl; exact rfl) | ((with_reducible apply Step.assign); exact rfl; exact rfl) | ((with_reducible apply Step.lss); exact rfl; exact rfl; exact rfl) | ((with_reducible apply Step.gtr); exact rfl; exact rfl; exact rfl) | ((with_reducible apply Step.callR fit); exact rfl; exact Try.func103; exact rfl; exact rfl; exact (isNaN_ok _))) | (with_reducible refine AWo.nil ?_) | ((with_reducible apply AW.seq)) | ((with_reducible apply Then.n)) | ((with_reducible apply AW.regL)) | ((with_reducible apply AW.skip)) | ((with_reducible apply AW.condF); exact rfl; (focus (first | rfl | (simp only [decide_eq_true_eq, decide_eq_false_iff_not, Bool.not_eq_true', Bool.not_eq_false', Bool.not_true, Bool.not_false]; first | assumption | omega))))))
      (refine AW.retD (l := [(4, _)]) (by repeat (first | exact trivial | (refine And.intro ⟨rfl, by (exact .int _ _)⟩ ?_))) ?_; (repeat (first | refine Then.r ?_ | refine InBlk.r ?_)))
      exact ⟨_, rfl, by simp [cmpI, h1, h2], rfl⟩
end Go.Proofs.Ytmomjannlnafcaa.Abs
namespace Go.Proofs.Ytmomjannlnafcaa.Abs
set_option linter.unusedSimpArgs false
set_option linter.unusedVariables false
open Go.RowKit
open Go.Proofs.Ytmomjannlnafcaa.Sim
open Go.Proofs
theorem upI_mem {n : Nat} {x : Int} : x ∈ upI n ↔ 0 ≤ x ∧ x < n := by
  simp only [upI, List.mem_map, List.mem_range]
  constructor
  · rintro ⟨k, hk, rfl⟩; omega
  · rintro ⟨h1, h2⟩; exact ⟨x.toNat, by omega, by omega⟩
theorem upI_cross {le : Int → Int → Bool} {c : Int → Int → Int} {n : Nat} (h : ∀ x y : Int, 0 ≤ x → x < y → y < n → Cross le c x y) : (upI n).Pairwise (Cross le c) := by
  unfold upI
  rw [List.pairwise_map]
  refine List.Pairwise.imp_of_mem (fun {a b} ha hb hab => h a b (by omega) (by omega) ?_) (List.pairwise_lt_range)
  have := List.mem_range.1 hb
  omega
def jK (x : Two) : Int := if x.cut ≤ x.sew then 0 else 1
def jV (x : Two) : Int := if x.cut ≤ x.sew then x.cut else -x.sew
def leJ (j : List Two) (a b : Int) : Bool := decide (jK (j.getD a.toNat default) < jK (j.getD b.toNat default) ∨ jK (j.getD a.toNat default) = jK (j.getD b.toNat default) ∧ (jV (j.getD a.toNat default) < jV (j.getD b.toNat default) ∨ jV (j.getD a.toNat default) = jV (j.getD b.toNat default) ∧ a ≤ b))
theorem lex_to (f h : Int → Int) : TO (fun a b => decide (f a < f b ∨ f a = f b ∧ (h a < h b ∨ h a = h b ∧ a ≤ b))) := by
  refine ⟨fun a b => ?_, fun a b c h1 h2 => ?_, fun a b h1 h2 => ?_⟩
  · simp only [Bool.or_eq_true, decide_eq_true_eq]; omega
  · simp only [decide_eq_true_eq] at *; omega
  · simp only [decide_eq_true_eq] at *; omega
end Go.Proofs.Ytmomjannlnafcaa.Abs
namespace Go.Proofs.Ytmomjannlnafcaa.Abs
set_option linter.unusedSimpArgs false
set_option linter.unusedVariables false
open Go.RowKit
open Go.Proofs.Ytmomjannlnafcaa.Sim
open Go.Proofs
set_option maxRecDepth 100000 in
theorem f108_ok {m : AM} {v : Value} {l : List Int} {g : FuncId} {cap : Array Value} {fn : Func} {bd : Code} (hl : Ints m v l) (hf : Try.prog.funcs[g]? = some fn) (hb : fn.body = some bd) (pr : Nat → Bool)
    (hlen : l.length ≤ 9223372036854775807) (hg : ∀ k, k < l.length → ACall Try.prog g (#[] ++ #[.int .i64 (l.getD k 0)] ++ cap) m (Ret (.bool (pr k)) m)) : ACall Try.prog 108 #[v, .func (.func g) #[] cap] m (Ret (.int .i64 (idxF pr l.length)) m) := by
  obtain ⟨a, o, h1, h2, h3⟩ := hl
  refine ACall.start Try.func108 rfl rfl ?_
  (repeat (first | (with_reducible refine AWo.cons ?_) | ((with_reducible refine Step.id ?_); first | ((with_reducible apply Step.move); exact rfl; exact rfl) | ((with_reducible apply Step.assign); exact rfl; exact rfl) | ((with_reducible apply Step.len); exact rfl; (focus (assumption)); (focus (decide +kernel)); exact rfl)) | (with_reducible refine AWo.nil ?_) | ((with_reducible apply AW.seq)) | ((with_reducible apply Then.n)) | ((with_reducible apply AW.regL)) | ((with_reducible apply AW.block))))
  refine AW.loopT (fun n t L => ∃ k : Nat, n = l.length - k ∧ k ≤ l.length ∧ (∀ i, i < k → pr i = false) ∧ L = [] ∧
    t = [(0, v), (1, .func (.func g) #[] cap), (7, .int .i64 (l.length : Nat)), (8, .int .i64 (k : Nat))]) ⟨_, _, _, (Or.inl ⟨rfl, (by repeat (first | exact trivial | (refine And.intro rfl ?_)))⟩), 0, rfl, Nat.zero_le _, by omega, rfl, rfl⟩ ?_
  rintro n t L ⟨k, rfl, hk, hz, rfl, rfl⟩
  rcases Nat.lt_or_ge k l.length with hlt | hge
  · have hgk := hg k hlt
    have hr := h3 k hlt
    cases hp : pr k with
    | true =>
      rw [hp] at hgk
      (repeat (first | (with_reducible refine AWo.cons ?_) | ((with_reducible refine Step.id ?_); first | ((with_reducible apply Step.move); exact rfl; exact rfl) | ((with_reducible apply Step.assign); exact rfl; exact rfl) | ((with_reducible apply Step.load); exact rfl; (focus (decide +kernel)); exact rfl; (focus (exact Rd.old _ (by assumption)))) | ((with_reducible apply Step.ix1); exact rfl; (focus (assumption)); exact rfl; (focus (decide +kernel)); exact rfl; (focus (omega))) | ((with_reducible apply Step.lss); exact rfl; exact rfl; exact rfl) | ((with_reducible apply Step.callV fit); exact rfl; exact rfl; exact hf; exact hb; exact rfl; exact ((by rw [List.append_nil]; exact hgk)))) | (with_reducible refine AWo.nil ?_) | ((with_reducible apply AW.seq)) | ((with_reducible apply Then.n)) | ((with_reducible apply AW.regL)) | ((with_reducible apply AW.block)) | ((with_reducible apply AW.skip)) | ((with_reducible apply AW.condT); exact rfl; (focus (first | rfl | (simp only [decide_eq_true_eq, decide_eq_false_iff_not, Bool.not_eq_true', Bool.not_eq_false', Bool.not_true, Bool.not_false]; first | assumption | omega))))))
      (refine AW.retD (l := [(4, _)]) (by repeat (first | exact trivial | (refine And.intro ⟨rfl, by (exact .int _ _)⟩ ?_))) ?_; (repeat (first | refine Then.r ?_ | refine InBlk.r ?_)))
      exact ⟨_, rfl, by rw [idxF_hit hlt hz hp], rfl⟩
    | false =>
      rw [hp] at hgk
      (repeat (first | (with_reducible refine AWo.cons ?_) | ((with_reducible refine Step.id ?_); first | ((with_reducible apply Step.move); exact rfl; exact rfl) | ((with_reducible apply Step.assign); exact rfl; exact rfl) | ((with_reducible apply Step.load); exact rfl; (focus (decide +kernel)); exact rfl; (focus (exact Rd.old _ (by assumption)))) | ((with_reducible apply Step.ix1); exact rfl; (focus (assumption)); exact rfl; (focus (decide +kernel)); exact rfl; (focus (omega))) | ((with_reducible apply Step.add); exact rfl; exact rfl; (focus (omega)); exact rfl) | ((with_reducible apply Step.lss); exact rfl; exact rfl; exact rfl) | ((with_reducible apply Step.callV fit); exact rfl; exact rfl; exact hf; exact hb; exact rfl; exact ((by rw [List.append_nil]; exact hgk)))) | (with_reducible refine AWo.nil ?_) | ((with_reducible apply AW.seq)) | ((with_reducible apply Then.n)) | ((with_reducible apply AW.regL)) | ((with_reducible apply AW.block)) | ((with_reducible apply InBlk.n)) | ((with_reducible apply AW.skip)) | ((with_reducible apply AW.condT); exact rfl; (focus ((simp only [decide_eq_true_eq, decide_eq_false_iff_not, Bool.not_eq_true', Bool.not_eq_false', Bool.not_true, Bool.not_false]; first | assumption | omega)))) | ((with_reducible apply AW.condF); exact rfl; (focus (rfl)))))
      exact ⟨_, _, _, by omega, (Or.inl ⟨rfl, (by repeat (first | exact trivial | (refine And.intro rfl ?_)))⟩), k + 1, rfl, by omega, fun i hi => by rcases Nat.lt_succ_iff_lt_or_eq.1 hi with h | h; exact hz i h; rw [h]; exact hp, rfl, rfl⟩
  · (repeat (first | (with_reducible refine AWo.cons ?_) | ((with_reducible refine Step.id ?_); first | ((with_reducible apply Step.assign); exact rfl; exact rfl) | ((with_reducible apply Step.lss); exact rfl; exact rfl; exact rfl)) | (with_reducible refine AWo.nil ?_) | ((with_reducible apply AW.seq)) | ((with_reducible apply Then.n)) | ((with_reducible apply AW.regL)) | ((with_reducible apply AW.exit)) | ((with_reducible apply InBlk.hit)) | ((with_reducible apply Then.e)) | ((with_reducible apply AW.condF); exact rfl; (focus ((simp only [decide_eq_true_eq, decide_eq_false_iff_not, Bool.not_eq_true', Bool.not_eq_false', Bool.not_true, Bool.not_false]; first | assumption | omega))))))
    obtain rfl : k = l.length := by omega
    (refine AW.retD (l := [(4, _)]) (by repeat (first | exact trivial | (refine And.intro ⟨rfl, by (exact .int _ _)⟩ ?_))) ?_; (repeat (first | refine Then.r ?_ | refine InBlk.r ?_)))
    exact ⟨_, rfl, by rw [idxF_miss hz], rfl⟩
end Go.Proofs.Ytmomjannlnafcaa.Abs
namespace Go.Proofs.Ytmomjannlnafcaa.Abs
set_option linter.unusedSimpArgs false
set_option linter.unusedVariables false
open Go.RowKit
open Go.Proofs.Ytmomjannlnafcaa.Sim
/-- All cells of a memory's blocks have a property. -/
def CellsP (p : Value → Prop) (L : AM) : Prop := ∀ b, some b ∈ L → ∀ v ∈ b.cells, p v
theorem CellsP.nil {p : Value → Prop} : CellsP p [] := fun b h => by simp at h
theorem CellsP.none {p : Value → Prop} {L : AM} (h : CellsP p L) : CellsP p (none :: L) := fun b hb => h b (by simpa using hb)
theorem CellsP.cons {p : Value → Prop} {b : Blk} {L : AM} (hb : ∀ v ∈ b.cells, p v) (h : CellsP p L) : CellsP p (some b :: L) := fun c hc => by
  rcases List.mem_cons.1 hc with e | e
  · injection e with e; subst e; exact hb
  · exact h c e
theorem CellsP.gb {p : Value → Prop} {c : List Value} {s : Nat} {L : AM} (hb : ∀ v ∈ c, p v) (h : CellsP p L) : CellsP p (gb c s :: L) := by
  cases c with
  | nil => exact .none h
  | cons x l => exact .cons hb h
theorem cells_nil {p : Value → Prop} : ∀ v ∈ ([] : List Value), p v := fun v h => by simp at h
theorem cells_cons {p : Value → Prop} {x : Value} {l : List Value} (h : p x) (hl : ∀ v ∈ l, p v) : ∀ v ∈ x :: l, p v := fun v hv => by
  rcases List.mem_cons.1 hv with e | e
  · rw [e]; exact h
  · exact hl v e
theorem cells_iv {ρ : Nat → Nat} {N : Nat} (l : List Int) : ∀ v ∈ iv l, Ren ρ N v v := fun v h => .of_g0 (g0_iv l v h)
theorem cells_g0 {ρ : Nat → Nat} {N : Nat} {l : List Value} (h : ∀ v ∈ l, g0 v = true) : ∀ v ∈ l, Ren ρ N v v := fun v hv => .of_g0 (h v hv)
theorem Back.trimC {M : AM} {t : Fm} {m : AM} {l : List (Nat × Value)} {L1 L2 L3 : AM} (hm : m = M ++ L3) (hL : L3 = L1 ++ L2) (hc : CellsP (fun v => Ren rid (M.length + L1.length) v v) L1) (h : All (fun i v => t i = some v ∧ Ren rid (M.length + L1.length) v v) l) : Back M t m l L1 := by
  subst hm
  exact .inr (Gc.trim hL (fun b hb v hv => hc b hb v hv) h)
theorem Back.mvC {M : AM} {t : Fm} {m : AM} {l : List (Nat × Value)} {L1 L3 : AM} (p q : Nat) (hm : m = M ++ L3) (hp : Nat.blt p L1.length = true) (hq : Nat.ble L1.length q = true) (hpq : L1[p]? = L3[q]?) (hrest : ∀ j b, j ≠ p → L1[j]? = some (some b) → L3[j]? = some (some b))
    (hc : CellsP (fun v => Ren (fun i => if i = M.length + p then M.length + q else i) (M.length + L1.length) v v) L1)
    (h : All (fun i v => ∃ v', t i = some v' ∧ Ren (fun i => if i = M.length + p then M.length + q else i) (M.length + L1.length) v v') l) : Back M t m l L1 := by
  subst hm
  exact .inr (Gc.mv (by simpa using hp) (Nat.le_of_ble_eq_true hq) hpq hrest (fun b hb v hv => hc b hb v hv) h)
theorem Ren.ptr_ne {N p q : Nat} {a o n : Nat} (h : a < n) (hne : a ≠ N + p) : Ren (fun i => if i = N + p then N + q else i) n (.pointer (some ⟨a, o, none⟩)) (.pointer (some ⟨a, o, none⟩)) := by
  have := Ren.ptr (ρ := fun i => if i = N + p then N + q else i) (n := n) a o h
  simpa [hne] using this
section
variable {P : Program} {nt : Nat} {m m0 : AM} {t : Fm} {Q : AEx → Fm → AM → Prop}
theorem AW.label {l : Nat} (h : Q .normal t m) : AW P nt m0 (.label l) t m Q := fun _ _ _ R _ _ _ _ hp ht => wp_label ⟨.normal, t, m, R, rfl, rfl, hp, ht, h⟩
/-- At the end, over a memory that holds more than the caller's. -/
theorem AW.retX {M N L : AM} {l : List (Nat × Value)} (hm : m = (M ++ N) ++ L) (h : All (fun i v => t i = some v ∧ Ren rid M.length v v) l) (hQ : Q .ret (fr l) M) : AW P nt M .ret t m Q := by
  subst hm
  rw [List.append_assoc]
  exact .retD h hQ
end
section
variable {P : Program} {nt : Nat} {ops : Array Oper} {t : Fm} {m : AM} {K : Fm → AM → Prop} {d T : Nat} {p : String} {af : Array Edge}
/-- A call that leaves more memory: the caller goes on over this. -/
def More (S : AM → Value → Prop) (m : AM) : Value → AM → Prop := fun v m' => ∃ N, m' = m ++ N ∧ S m' v
theorem Step.callX {args : Array Operand} {tys : Array TypeId} {g : FuncId} {vs : List Value} {fn : Func} {b : Code} {S : AM → Value → Prop} (hP : Fit P) (ha : evL t args.toList = some vs) (hf : P.funcs[g]? = some fn) (hb : fn.body = some b)
    (hlt : Nat.blt d nt = true) (h : ACall P g vs.toArray m (More S m)) (hK : ∀ (v : Value) (M : AM), (∃ N, M = m ++ N) → S M v → K (put t d v) (M ++ [])) : Step P nt ops ⟨some d, .call ⟨.value (.func g), args, tys⟩, T, p, af, none⟩ t m K :=
  .callF hP ha hf hb hlt h (by
    rintro v m' ⟨N, rfl, hS⟩
    have := hK v (m ++ N) ⟨N, rfl⟩ hS
    rwa [List.append_nil] at this)
end
end Go.Proofs.Ytmomjannlnafcaa.Abs
