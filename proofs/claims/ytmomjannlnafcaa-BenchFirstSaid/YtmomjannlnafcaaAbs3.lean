import Derived.Test.YtmomjannlnafcaaAbs2
namespace Go.Proofs.Ytmomjannlnafcaa.Abs
set_option linter.unusedSimpArgs false
set_option linter.unusedVariables false
open Go.RowKit
open Go.Proofs.Ytmomjannlnafcaa.Sim
/-! ### other names for blocks; what is not needed is let go -/
/-- The value v' is the value v with the blocks named anew: block i of v is block ρ i of v'. -/
inductive Ren (ρ : Nat → Nat) (n : Nat) : Value → Value → Prop
  | bool (b : Bool) : Ren ρ n (.bool b) (.bool b)
  | int (k : IntKind) (x : Int) : Ren ρ n (.int k x) (.int k x)
  | float (k : FloatKind) (x : Nat) : Ren ρ n (.float k x) (.float k x)
  | complex (k : FloatKind) (x y : Nat) : Ren ρ n (.complex k x y) (.complex k x y)
  | string (s : ByteArray) : Ren ρ n (.string s) (.string s)
  | ptrNil : Ren ρ n (.pointer none) (.pointer none)
  | ptr (i o : Nat) (h : i < n) : Ren ρ n (.pointer (some ⟨i, o, none⟩)) (.pointer (some ⟨ρ i, o, none⟩))
  | sliceNil : Ren ρ n (.slice none 0 0) (.slice none 0 0)
  | slice (i o l c : Nat) (h : i < n) : Ren ρ n (.slice (some ⟨i, o, none⟩) l c) (.slice (some ⟨ρ i, o, none⟩) l c)
  | mapNil : Ren ρ n (.map none) (.map none)
  | nilFunc : Ren ρ n .nilFunc .nilFunc
  | nilIface : Ren ρ n .nilIface .nilIface
  | func (fn : Fn) (f c f' c' : Array Value) (h1 : f.size = f'.size) (h2 : ∀ i, i < f.size → Ren ρ n (f.getD i undef) (f'.getD i undef))
      (h3 : c.size = c'.size) (h4 : ∀ i, i < c.size → Ren ρ n (c.getD i undef) (c'.getD i undef)) : Ren ρ n (.func fn f c) (.func fn f' c')
  | agg (c c' : Array Value) (h1 : c.size = c'.size) (h2 : ∀ i, i < c.size → Ren ρ n (c.getD i undef) (c'.getD i undef)) : Ren ρ n (.agg c) (.agg c')
  | tuple (c c' : Array Value) (h1 : c.size = c'.size) (h2 : ∀ i, i < c.size → Ren ρ n (c.getD i undef) (c'.getD i undef)) : Ren ρ n (.tuple c) (.tuple c')
def renPl (ρ : Nat → Nat) (n : Nat) (R : Pl) : Pl := fun i => if i < n then R (ρ i) else none
theorem Ren.rel {ρ : Nat → Nat} {n : Nat} {R : Pl} {v v' : Value} (h : Ren ρ n v v') : ∀ x, Rel R v' x → Rel (renPl ρ n R) v x := by
  induction h with
  | bool b => intro x hx; cases hx; exact .bool b
  | int k q => intro x hx; cases hx; exact .int k q
  | float k q => intro x hx; cases hx; exact .float k q
  | complex k q r => intro x hx; cases hx; exact .complex k q r
  | string s => intro x hx; cases hx; exact .string s
  | ptrNil => intro x hx; cases hx; exact .ptrNil
  | ptr i o hi => intro x hx; cases hx with | ptr _ _ p hp => exact .ptr i o p (by simp [renPl, hi, hp])
  | sliceNil => intro x hx; cases hx; exact .sliceNil
  | slice i o l c hi => intro x hx; cases hx with | slice _ _ _ _ p hp hn => exact .slice i o l c p (by simp [renPl, hi, hp]) hn
  | mapNil => intro x hx; cases hx; exact .mapNil
  | nilFunc => intro x hx; cases hx; exact .nilFunc
  | nilIface => intro x hx; cases hx; exact .nilIface
  | func fn f c f' c' h1 _ h3 _ i1 i2 =>
    intro x hx
    cases hx with
    | func _ _ _ f2 c2 k1 k2 k3 k4 => exact .func fn f c f2 c2 (h1.trans k1) (fun i hi => i1 i hi _ (k2 i (by omega))) (h3.trans k3) (fun i hi => i2 i hi _ (k4 i (by omega)))
  | agg c c' h1 _ i1 =>
    intro x hx
    cases hx with
    | agg _ c2 k1 k2 => exact .agg c c2 (h1.trans k1) (fun i hi => i1 i hi _ (k2 i (by omega)))
  | tuple c c' h1 _ i1 =>
    intro x hx
    cases hx with
    | tuple _ c2 k1 k2 => exact .tuple c c2 (h1.trans k1) (fun i hi => i1 i hi _ (k2 i (by omega)))
/-- What lies in a memory names only its blocks. -/
theorem Ren.of_rel {ρ : Nat → Nat} {n N : Nat} {R : Pl} {v x : Value} (h : Rel R v x) (hR : ∀ i, N ≤ i → R i = none) (hN : N ≤ n) (hρ : ∀ i, i < N → ρ i = i) : Ren ρ n v v := by
  have lt : ∀ i p, R i = some p → i < N := fun i p hp => by
    rcases Nat.lt_or_ge i N with h | h
    · exact h
    · rw [hR i h] at hp; cases hp
  induction h with
  | bool b => exact .bool b
  | int k q => exact .int k q
  | float k q => exact .float k q
  | complex k q r => exact .complex k q r
  | string s => exact .string s
  | ptrNil => exact .ptrNil
  | ptr i o p hp =>
    have hi := lt i p hp
    have := Ren.ptr (ρ := ρ) (n := n) i o (by omega)
    rwa [hρ i hi] at this
  | sliceNil => exact .sliceNil
  | slice i o l c p hp _ =>
    have hi := lt i p hp
    have := Ren.slice (ρ := ρ) (n := n) i o l c (by omega)
    rwa [hρ i hi] at this
  | mapNil => exact .mapNil
  | nilFunc => exact .nilFunc
  | nilIface => exact .nilIface
  | func fn f c f' c' h1 _ h3 _ i1 i2 => exact .func fn f c f c rfl i1 rfl i2
  | agg c c' h1 _ i1 => exact .agg c c rfl i1
  | tuple c c' h1 _ i1 => exact .tuple c c rfl i1
/-- From (t, m) one may go on as from (t1, m1); the blocks of m0 keep their names. -/
def Gc (m0 : AM) (t : Fm) (m : AM) (t1 : Fm) (m1 : AM) : Prop :=
  ∃ ρ : Nat → Nat, m0.length ≤ m1.length ∧ (∀ j, j < m0.length → ρ j = j) ∧
    (∀ (i j : Nat) (b c : Blk), m1[i]? = some (some b) → m1[j]? = some (some c) → ρ i = ρ j → i = j) ∧
    (∀ (j : Nat) (b : Blk), m1[j]? = some (some b) → (j < m0.length ∧ m[j]? = some (some b) ∧ m0[j]? = some (some b)) ∨
      ∃ b', m[ρ j]? = some (some b') ∧ b.kind = b'.kind ∧ b.size = b'.size ∧ b.cells.length = b'.cells.length ∧ ∀ (k : Nat) (v : Value), b.cells[k]? = some v → ∃ v', b'.cells[k]? = some v' ∧ Ren ρ m1.length v v') ∧
    (∀ i v, t1 i = some v → ∃ v', t i = some v' ∧ Ren ρ m1.length v v')
section
variable {P : Program} {base n nt : Nat} {R R0 : Pl} {m m0 m1 : AM} {w w0 : World} {t t1 : Fm} {u : Array Value} {Q Q' : AEx → Fm → AM → Prop}
theorem Gc.ok (h : Gc m0 t m t1 m1) (h0 : MRep base R0 m0 w0) (hp : Post base m0 m R0 R w0 w) (ht : FR R nt t u) : ∃ R1, Post base m0 m1 R0 R1 w0 w ∧ FR R1 nt t1 u := by
  obtain ⟨ρ, hl, hid, hinj, hm, hf⟩ := h
  have lt0 : ∀ i p, R0 i = some p → i < m0.length := fun i p hp => by
    rcases Nat.lt_or_ge i m0.length with h | h
    · exact h
    · rw [h0.none_ i h] at hp; cases hp
  have hm' : ∀ (j : Nat) (b : Blk), m1[j]? = some (some b) → ∃ b', m[ρ j]? = some (some b') ∧ b.kind = b'.kind ∧ b.size = b'.size ∧ b.cells.length = b'.cells.length ∧ ∀ (k : Nat) (v : Value), b.cells[k]? = some v → ∃ v', b'.cells[k]? = some v' ∧ Ren ρ m1.length v v' := by
    intro j b hj
    rcases hm j b hj with ⟨h1, h2, h3⟩ | h
    · refine ⟨b, by rw [hid j h1]; exact h2, rfl, rfl, rfl, fun k v hk => ⟨v, hk, ?_⟩⟩
      obtain ⟨p, k1, k2⟩ := h0.rep j b h3
      obtain ⟨x, _, hx⟩ := k2.cell hk
      exact Ren.of_rel hx h0.none_ hl hid
    · exact h
  have hrep := hp.rep
  refine ⟨renPl ρ m1.length R, ⟨fun i p hi => ?_, ⟨fun i hi => ?_, fun j b hj => ?_, fun i j b c p q hi hj hb hc hne hpi hqj => ?_⟩, hp.os, hp.tape, hp.output, hp.size, hp.keep, fun k ho => ?_⟩, ⟨ht.size, fun i v hi => ?_⟩⟩
  · have hi' := lt0 i p hi
    simp only [renPl, show i < m1.length by omega, if_true, hid i hi']
    exact hp.le i p hi
  · simp only [renPl, show ¬ i < m1.length by omega, if_false]
  · obtain ⟨b', h1, h2, h3, h3', h4⟩ := hm' j b hj
    obtain ⟨p, k1, k2⟩ := hrep.rep (ρ j) b' h1
    have hlt : j < m1.length := (List.getElem?_eq_some_iff.1 hj).1
    refine ⟨p, by simp only [renPl, hlt, if_true]; exact k1, ?_⟩
    unfold BRep at k2 ⊢
    obtain ⟨q0, k2⟩ := k2
    refine ⟨q0, ?_⟩
    rw [← h2] at k2
    cases hk : b.kind with
    | ro =>
      rw [hk] at k2
      refine ⟨fun e => k2.1 (by rw [← h3]; exact e), fun k v hv => ?_⟩
      obtain ⟨v', r1, r2⟩ := h4 k v hv
      obtain ⟨x, r3, r4⟩ := k2.2 k v' r1
      exact ⟨x, r3, r2.rel x r4⟩
    | edge =>
      rw [hk] at k2
      refine ⟨?_, k2.2⟩
      have := h3'
      rw [k2.1] at this
      exact List.eq_nil_of_length_eq_zero this
    | own =>
      rw [hk] at k2
      obtain ⟨cur, ty, r1, r2, r3, r4, r5⟩ := k2
      refine ⟨cur, ty, r1, r2, by rw [h3', h3]; exact r3, r4, fun k v hv => ?_⟩
      obtain ⟨v', s1, s2⟩ := h4 k v hv
      obtain ⟨x, s3, s4, s5⟩ := r5 k v' s1
      exact ⟨x, s3, s2.rel x s4, s5⟩
    | grow =>
      rw [hk] at k2
      obtain ⟨cur, ty, r1, r2, r3, r4, r5⟩ := k2
      refine ⟨cur, ty, r1, r2, by rw [h3', h3]; exact r3, r4, fun k v hv => ?_⟩
      obtain ⟨v', s1, s2⟩ := h4 k v hv
      obtain ⟨x, s3, s4, s5⟩ := r5 k v' s1
      exact ⟨x, s3, s2.rel x s4, s5⟩
  · obtain ⟨b', h1, h2, _⟩ := hm' i b hi
    obtain ⟨c', k1, k2, _⟩ := hm' j c hj
    have hi' : i < m1.length := (List.getElem?_eq_some_iff.1 hi).1
    have hj' : j < m1.length := (List.getElem?_eq_some_iff.1 hj).1
    simp only [renPl, hi', hj', if_true] at hpi hqj
    exact hrep.apart (ρ i) (ρ j) b' c' p q h1 k1 (by rw [← h2]; exact hb) (by rw [← k2]; exact hc) (fun e => hne (hinj i j b c hi hj e)) hpi hqj
  · obtain ⟨i, b, p, h1, h2, h3, h4⟩ := ho
    obtain ⟨b', k1, k2, _⟩ := hm' i b h1
    have hi' : i < m1.length := (List.getElem?_eq_some_iff.1 h1).1
    simp only [renPl, hi', if_true] at h3
    exact hp.sub k ⟨ρ i, b', p, k1, by rw [← k2]; exact h2, h3, h4⟩
  · obtain ⟨v', h1, h2⟩ := hf i v hi
    exact h2.rel _ (ht.rel i v' h1)
/-! ### code -/
def AW (P : Program) (nt : Nat) (m0 : AM) (c : Code) (t : Fm) (m : AM) (Q : AEx → Fm → AM → Prop) : Prop :=
  ∀ (base : Nat) (R0 : Pl) (w0 : World) (R : Pl) (a : Act) (w : World), base ≤ w0.heap.size → MRep base R0 m0 w0 → Post base m0 m R0 R w0 w → FR R nt t a.tmps →
    c.wp P (fun ex a' w' => ∃ e t' m' R', ex = AEx.to e ∧ a'.defers = a.defers ∧ Post base m0 m' R0 R' w0 w' ∧ FR R' nt t' a'.tmps ∧ Q e t' m') a w
theorem AW.mono {c : Code} (h : AW P nt m0 c t m Q) (hq : ∀ e t m, Q e t m → Q' e t m) : AW P nt m0 c t m Q' :=
  fun base R0 w0 R a w hb h0 hp ht => wp_mono (h base R0 w0 R a w hb h0 hp ht) fun _ _ _ ⟨e, t', m', R', h1, h2, h3, h4, h5⟩ => ⟨e, t', m', R', h1, h2, h3, h4, hq _ _ _ h5⟩
theorem AW.gc {c : Code} (hg : Gc m0 t m t1 m1) (h : AW P nt m0 c t1 m1 Q) : AW P nt m0 c t m Q := by
  intro base R0 w0 R a w hb h0 hp ht
  obtain ⟨R1, k1, k2⟩ := hg.ok h0 hp ht
  exact h base R0 w0 R1 a w hb h0 k1 k2
theorem AW.skip (h : Q .normal t m) : AW P nt m0 .skip t m Q := fun _ _ _ R _ _ _ _ hp ht => wp_skip ⟨.normal, t, m, R, rfl, rfl, hp, ht, h⟩
theorem AW.ret (h : Q .ret t m) : AW P nt m0 .ret t m Q := fun _ _ _ R _ _ _ _ hp ht => wp_ret ⟨.ret, t, m, R, rfl, rfl, hp, ht, h⟩
theorem AW.exit {id : Nat} (h : Q (.exit id) t m) : AW P nt m0 (.exit id) t m Q := fun _ _ _ R _ _ _ _ hp ht => wp_exit ⟨.exit id, t, m, R, rfl, rfl, hp, ht, h⟩
def Then (K : Fm → AM → Prop) (Q : AEx → Fm → AM → Prop) : AEx → Fm → AM → Prop
  | .normal, t, m => K t m
  | .exit i, t, m => Q (.exit i) t m
  | .ret, t, m => Q .ret t m
theorem AW.seq {a b : Code} (h : AW P nt m0 a t m (Then (fun t m => AW P nt m0 b t m Q) Q)) : AW P nt m0 (.seq a b) t m Q := by
  intro base R0 w0 R ac w hb h0 hp ht
  refine wp_seq (wp_mono (h base R0 w0 R ac w hb h0 hp ht) ?_)
  rintro ex a' w' ⟨e, t', m', R', rfl, h2, h3, h4, h5⟩
  cases e with
  | normal =>
    refine wp_mono (h5 base R0 w0 R' a' w' hb h0 h3 h4) ?_
    rintro ex a2 w2 ⟨e, t2, m2, R2, k1, k2, k3, k4, k5⟩
    exact ⟨e, t2, m2, R2, k1, k2.trans h2, k3, k4, k5⟩
  | exit i => exact ⟨.exit i, t', m', R', rfl, h2, h3, h4, h5⟩
  | ret => exact ⟨.ret, t', m', R', rfl, h2, h3, h4, h5⟩
/-- Cut: what holds between. -/
theorem AW.cut {a b : Code} (Mid : Fm → AM → Prop) (h : AW P nt m0 a t m (Then Mid Q)) (h2 : ∀ t m, Mid t m → AW P nt m0 b t m Q) : AW P nt m0 (.seq a b) t m Q :=
  .seq (h.mono fun e t m => by cases e <;> first | exact h2 t m | exact id)
theorem AW.cond {c : Operand} {a b : Code} {q : Bool} (hc : evo t c = some (.bool q)) (h1 : q = true → AW P nt m0 a t m Q) (h2 : q = false → AW P nt m0 b t m Q) : AW P nt m0 (.cond c a b) t m Q := by
  intro base R0 w0 R ac w hb h0 hp ht
  have hr := evo_rel ht hc
  have he : ac.eval c = .bool q := by generalize ac.eval c = y at hr; cases hr; rfl
  exact wp_cond_split he (fun e => h1 e base R0 w0 R ac w hb h0 hp ht) (fun e => h2 e base R0 w0 R ac w hb h0 hp ht)
def InBlk (id : Nat) (Q : AEx → Fm → AM → Prop) : AEx → Fm → AM → Prop
  | .exit i, t, m => if i = id then Q .normal t m else Q (.exit i) t m
  | .normal, t, m => Q .normal t m
  | .ret, t, m => Q .ret t m
theorem AW.block {id : Nat} {c : Code} (h : AW P nt m0 c t m (InBlk id Q)) : AW P nt m0 (.block id c) t m Q := by
  intro base R0 w0 R ac w hb h0 hp ht
  refine wp_block (wp_mono (h base R0 w0 R ac w hb h0 hp ht) ?_)
  rintro ex a' w' ⟨e, t', m', R', rfl, h2, h3, h4, h5⟩
  cases e with
  | normal => exact ⟨.normal, t', m', R', rfl, h2, h3, h4, h5⟩
  | ret => exact ⟨.ret, t', m', R', rfl, h2, h3, h4, h5⟩
  | exit i =>
    simp only [AEx.to, Exit.inBlock]
    simp only [InBlk] at h5
    split
    · rename_i hi
      rw [if_pos hi] at h5
      exact ⟨.normal, t', m', R', rfl, h2, h3, h4, h5⟩
    · rename_i hi
      rw [if_neg hi] at h5
      exact ⟨.exit i, t', m', R', rfl, h2, h3, h4, h5⟩
theorem least (p : Nat → Prop) : (∃ n, p n) → ∃ n, p n ∧ ∀ k, k < n → ¬ p k := by
  intro ⟨n, hn⟩
  induction n using Nat.strongRecOn with
  | _ n ih =>
    by_cases h : ∃ k, k < n ∧ p k
    · obtain ⟨k, h1, h2⟩ := h
      exact ih k h1 h2
    · exact ⟨n, hn, fun k hk hp => h ⟨k, hk, hp⟩⟩
theorem AW.loop {c : Code} (I : Nat → Fm → AM → Prop) (h0 : ∃ k t1 m1, Gc m0 t m t1 m1 ∧ I k t1 m1)
    (round : ∀ k t m, I k t m → AW P nt m0 c t m (Then (fun t' m' => ∃ k' t1 m1, k' < k ∧ Gc m0 t' m' t1 m1 ∧ I k' t1 m1) Q)) : AW P nt m0 (.loop c) t m Q := by
  intro base R0 w0 R ac w hb hm0 hp ht
  let J : Nat → Act → World → Prop := fun k a w => ∃ t m R, I k t m ∧ Post base m0 m R0 R w0 w ∧ FR R nt t a.tmps ∧ a.defers = ac.defers
  have hJ0 : ∃ k, J k ac w := by
    obtain ⟨k, t1, m1, hg, hI⟩ := h0
    obtain ⟨R1, k1, k2⟩ := hg.ok hm0 hp ht
    exact ⟨k, t1, m1, R1, hI, k1, k2, rfl⟩
  open Classical in
  let μ : Act → World → Nat := fun a w => if h : ∃ k, J k a w then Classical.choose (least _ h) else 0
  have hμ : ∀ a w (h : ∃ k, J k a w), J (μ a w) a w ∧ ∀ k, J k a w → μ a w ≤ k := fun a w h => by
    have hs := Classical.choose_spec (least _ h)
    have e : μ a w = Classical.choose (least _ h) := dif_pos h
    rw [e]
    exact ⟨hs.1, fun k hk => Nat.le_of_not_lt fun hlt => hs.2 k hlt hk⟩
  refine wp_loop (fun a w => ∃ k, J k a w) μ hJ0 fun a w hJ => ?_
  obtain ⟨⟨t2, m2, R2, q1, q2, q3, q4⟩, _⟩ := hμ a w hJ
  refine wp_mono (round _ _ _ q1 base R0 w0 R2 a w hb hm0 q2 q3) ?_
  rintro ex a' w' ⟨e, t', m', R', rfl, h2, h3, h4, h5⟩
  cases e with
  | normal =>
    obtain ⟨k', t1, m1, r1, r2, r3⟩ := h5
    obtain ⟨R1, s1, s2⟩ := r2.ok hm0 h3 h4
    have hJ' : J k' a' w' := ⟨t1, m1, R1, r3, s1, s2, h2.trans q4⟩
    exact ⟨⟨k', hJ'⟩, Nat.lt_of_le_of_lt ((hμ a' w' ⟨k', hJ'⟩).2 k' hJ') r1⟩
  | exit i => exact ⟨.exit i, t', m', R', rfl, h2.trans q4, h3, h4, h5⟩
  | ret => exact ⟨.ret, t', m', R', rfl, h2.trans q4, h3, h4, h5⟩
theorem AW.reg {id : Nat} {ops : Array Oper} {l : List Nat} (hl : List.range ops.size = l) (h : AWi P nt ops l t m (fun t m => Q .normal t m)) : AW P nt m0 (.region id ops false) t m Q := by
  intro base R0 w0 R ac w hb h0 hp ht
  refine wp_region ?_
  rw [hl]
  refine AWi.ok l t m R w ac h (Nat.le_trans hb hp.size) hp.rep ht ?_
  intro R' t' m' a' w' k1 k2 k3 k4
  exact ⟨.normal, t', m', R', rfl, k1, hp.trans k3, k2, k4⟩
theorem AW.all (hP : Fit P) {id : Nat} {ops : Array Oper} (h : AWd P nt ops (fun t m => Q .normal t m) ops.size (Array.replicate ops.size false) t m) : AW P nt m0 (.region id ops true) t m Q := by
  intro base R0 w0 R ac w hb h0 hp ht
  refine wp_region_any hP.mixed ?_
  have hd := Post.drew hp.rep
  refine AWd.ok ops.size _ t m R _ ac h (by have := hp.size; simpa using Nat.le_trans hb this) hd.rep ht ?_
  intro R' t' m' a' w' k1 k2 k3 k4
  exact ⟨.normal, t', m', R', rfl, k1, (hp.trans hd).trans k3, k2, k4⟩
theorem AW.draw (hP : Fit P) {id : Nat} {ops : Array Oper} {l : List Nat} (hl : plan P ops ops.size (Array.replicate ops.size false) = some l) (h : AWi P nt ops l t m (fun t m => Q .normal t m)) : AW P nt m0 (.region id ops true) t m Q :=
  .all hP (plan_ok _ _ _ _ _ (by simp) hl h)
/-! ### calls -/
def ACall (P : Program) (f : FuncId) (args : Array Value) (m : AM) (Q : Value → AM → Prop) : Prop :=
  ∀ (base : Nat) (R : Pl) (w : World) (args' : Array Value), base ≤ w.heap.size → MRep base R m w → Rels R args args' →
    Calls P f args' w fun e w' => ∃ v v' R' m', e = .returned v' ∧ Rel R' v v' ∧ Post base m m' R R' w w' ∧ Q v m'
theorem ACall.mono {f : FuncId} {args : Array Value} {Q Q' : Value → AM → Prop} (h : ACall P f args m Q) (hq : ∀ v m', Q v m' → Q' v m') : ACall P f args m Q' :=
  fun base R w args' hb hm ha => (h base R w args' hb hm ha).mono fun _ _ ⟨v, v', R', m', h1, h2, h3, h4⟩ => ⟨v, v', R', m', h1, h2, h3, hq _ _ h4⟩
def ares1 (P : Program) (t : Fm) (m : AM) : ResultVar → Option Value
  | .tmp i => t i
  | .cell a ty => match t a with
    | some p => aload P m ty p
    | none => none
def aresL (P : Program) (t : Fm) (m : AM) : List ResultVar → Option (List Value)
  | [] => some []
  | r :: rest => match ares1 P t m r, aresL P t m rest with
    | some v, some l => some (v :: l)
    | _, _ => none
def ares (P : Program) (fn : Func) (t : Fm) (m : AM) : Option Value :=
  match aresL P t m fn.results.toList with
  | some [v] => some v
  | some l => some (.tuple l.toArray)
  | none => none
theorem aresL_ok {n : Nat} (h : MRep base R m w) (ht : FR R n t u) : ∀ (l : List ResultVar) (vs : List Value), aresL P t m l = some vs →
    ∃ vs', RelL R vs vs' ∧ (l.mapM (res1 u)).run P w = .ok vs' w
  | [], vs, he => by simp [aresL] at he; subst he; exact ⟨[], .nil, by simp⟩
  | r :: rest, vs, he => by
    simp only [aresL] at he
    split at he
    · rename_i v l h1 h2
      injection he with he; subst he
      obtain ⟨l', k1, k2⟩ := aresL_ok h ht rest l h2
      have : ∃ v', Rel R v v' ∧ (res1 u r).run P w = .ok v' w := by
        cases r with
        | tmp i => exact ⟨_, ht.rel i v h1, rfl⟩
        | cell a ty =>
          simp only [ares1] at h1
          split at h1
          · rename_i p hpa
            have hg := ht.rel a p hpa
            obtain ⟨v', q1, q2⟩ := aload_ok (w := w) h.held hg h1
            refine ⟨v', q2, ?_⟩
            unfold aload at h1
            split at h1
            · have hres : res1 u (.cell a ty) = (do loadVar ty (← asAddr (u.getD a undef))) := rfl
              rw [hres]
              generalize u.getD a undef = q at hg q1 ⊢
              cases hg
              simpa [Instr.loadAt, Instr.sureAddr, asAddr] using q1
            · cases h1
          · cases h1
      obtain ⟨v', q1, q2⟩ := this
      refine ⟨v' :: l', .cons q1 k1, ?_⟩
      simp only [List.mapM_cons]
      simp only [Sem.run_bind, q2, k2, Result.andThen_ok]
      rfl
    · cases he
theorem ares_ok {fn : Func} {n : Nat} {v : Value} (h : MRep base R m w) (ht : FR R n t u) (he : ares P fn t m = some v) : ∃ v', Rel R v v' ∧ (results fn u).run P w = .ok v' w := by
  unfold ares at he
  have key : ∀ l, aresL P t m fn.results.toList = some l → ∃ l', RelL R l l' ∧ (results fn u).run P w = .ok (if h : l'.toArray.size = 1 then l'.toArray[0] else .tuple l'.toArray) w := fun l hl => by
    obtain ⟨l', k1, k2⟩ := aresL_ok (P := P) h ht _ _ hl
    refine ⟨l', k1, ?_⟩
    rw [results_eq]
    simp only [map_eq_pure_bind, Sem.run_bind, k2, Result.andThen_ok]
    rfl
  split at he
  · rename_i x hl
    injection he with he; subst he
    obtain ⟨l', k1, k2⟩ := key _ hl
    refine ⟨_, ?_, k2⟩
    match l', k1 with
    | [y], k1 =>
      obtain ⟨v', e1, e2⟩ := k1.2 0 x rfl
      simp at e1; subst e1
      simpa using e2
    | [], k1 => have := k1.1; simp at this
    | _ :: _ :: _, k1 => have := k1.1; simp at this
  · rename_i l hne hl
    injection he with he; subst he
    obtain ⟨l', k1, k2⟩ := key _ hl
    refine ⟨_, ?_, k2⟩
    match l, l', k1 with
    | [], [], _ => exact .tuple _ _ rfl (fun i hi => absurd hi (by simp))
    | [x], _, _ => exact (hne x rfl).elim
    | x :: y :: r, x' :: y' :: r', k1 =>
      have := k1.rels
      simpa using Rel.tuple _ _ this.1 this.2
    | [], _ :: _, k1 => have := k1.1; simp at this
    | _ :: _ :: _, [], k1 => have := k1.1; simp at this
    | _ :: _ :: _, [_], k1 => have := k1.1; simp at this
  · cases he
def argF (args : Array Value) : Fm := fun i => args.toList[i]?
/-- What the end of a body owes. -/
def Ends (P : Program) (fn : Func) (Q : Value → AM → Prop) : AEx → Fm → AM → Prop
  | .exit _, _, _ => False
  | _, t, m => ∃ v, ares P fn t m = some v ∧ Q v m
theorem ACall.intro {f : FuncId} {fn : Func} {c : Code} {args : Array Value} {Q : Value → AM → Prop} (hf : P.funcs[f]? = some fn) (hb : fn.body = some c) (hsz : args.size ≤ fn.ntmps)
    (h : AW P fn.ntmps m c (argF args) m (Ends P fn Q)) : ACall P f args m Q := by
  intro base R w args' hbase hm hargs
  refine calls_of_wp hf hb ?_
  have hs := hargs.1
  refine wp_mono (h base R w R ⟨args' ++ Array.replicate (fn.ntmps - args'.size) undef, []⟩ w hbase hm (.refl hm) ⟨by simp; omega, fun i v hi => ?_⟩) ?_
  · have hi : args[i]? = some v := by simpa [argF] using hi
    have hlt : i < args.size := (Array.getElem?_eq_some_iff.1 hi).1
    have := hargs.2 i hlt
    have e1 : args.getD i undef = v := by
      simp [hi]
    rw [e1] at this
    have e2 : (args' ++ Array.replicate (fn.ntmps - args'.size) undef).getD i undef = args'.getD i undef := by
      simp [Array.getElem?_append_left (show i < args'.size by omega)]
    show Rel R v ((args' ++ Array.replicate (fn.ntmps - args'.size) undef).getD i undef)
    rw [e2]; exact this
  · rintro ex a' w' ⟨e, t', m', R', rfl, h2, h3, h4, h5⟩
    cases e with
    | exit i => exact h5.elim
    | normal =>
      obtain ⟨v, k1, k2⟩ := h5
      obtain ⟨v', r1, r2⟩ := ares_ok (P := P) h3.rep h4 k1
      exact ⟨h2, v', r2, v, v', R', m', rfl, r1, h3, k2⟩
    | ret =>
      obtain ⟨v, k1, k2⟩ := h5
      obtain ⟨v', r1, r2⟩ := ares_ok (P := P) h3.rep h4 k1
      exact ⟨h2, v', r2, v, v', R', m', rfl, r1, h3, k2⟩
/-- A call of a function of the program, as an operation. -/
theorem loud_call (hP : Fit P) {o : Oper} {c : Call} {x : Operand} {ev : Operand → Value} {g : FuncId} {first captured : Array Value} {K : Value → AM → Prop} (ho : o.op = .call c) (hc : c.callee = .value x) (hx : ev x = .func (.func g) first captured)
    {fn : Func} {b : Code} (hf : P.funcs[g]? = some fn) (hb : fn.body = some b) (h : ACall P g (first ++ c.args.map ev ++ captured) m K) : Loud P o ev m K := by
  intro base R w a Q next hbase hm hev hn
  obtain ⟨dst, op, type, pos, after, guard⟩ := o
  simp only at ho; subst ho
  obtain ⟨callee, cargs, ctypes⟩ := c
  simp only at hc; subst hc
  have hxr := hev x (by simp [Op.operands, Call.operands])
  rw [hx] at hxr
  generalize hq : a.eval x = q at hxr
  cases hxr with
  | func _ _ _ f' c' k1 k2 k3 k4 =>
    have hargs := rels_map (R := R) (ev := ev) (ev' := a.eval) cargs (fun y hy => hev y (by simp [Op.operands, Call.operands, hy]))
    have hrun : (execOp a.eval { dst := dst, op := .call { callee := .value x, args := cargs, argTypes := ctypes }, type := type, pos := pos, after := after, guard := guard : Oper }).run P w = .ok (.enter g (f' ++ cargs.map a.eval ++ c')) w := by
      simp [execOp, resolve, hq, Deferred.ofValue, invoke, run_enter hf (hP.names _ _ hf) hb]
    unfold Oper.wp
    rw [hrun]
    refine (h base R w _ hbase hm (rels_app (rels_app ⟨k1, k2⟩ hargs) ⟨k3, k4⟩)).mono ?_
    rintro e w' ⟨v, v', R', m', rfl, q1, q2, q3⟩
    exact hn R' v v' m' w' q1 q2 q3
/-- A call that takes no memory, by its contract in the real world. -/
theorem ACall.of_calls {f : FuncId} {args : Array Value} {v : Value} (hg : args.all g1 = true) (hv : g1 v = true) (h : ∀ w, Calls P f args w fun e w' => e = .returned v ∧ Below w.heap.size w w') :
    ACall P f args m (fun v' m' => v' = v ∧ m' = m) := by
  intro base R w args' hb hm hargs
  have he : args' = args := ext_getD hargs.1.symm fun i hi => g1_eq (all_getD hg (by rw [hargs.1]; exact hi)) (hargs.2 i (by rw [hargs.1]; exact hi))
  subst he
  refine (h w).mono ?_
  rintro e w' ⟨rfl, hb'⟩
  exact ⟨v, v, R, m, rfl, g1_rel hv, ⟨.refl R, hm.kept hb'.block, hb'.os, hb'.tape, hb'.output, hb'.size, fun k hk _ => hb'.block k hk, fun _ h => .inr h⟩, rfl, rfl⟩
end
end Go.Proofs.Ytmomjannlnafcaa.Abs
