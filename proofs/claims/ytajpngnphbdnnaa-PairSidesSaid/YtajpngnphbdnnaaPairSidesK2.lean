/- Proved here: what the proof of PairSides rests on, part 2 of 5. Conditions: those that each theorem names. -/
import Derived.Test.YtajpngnphbdnnaaPairSidesK1
namespace Go.Proofs.Ytajpngnphbdnnaa.Abs
set_option linter.unusedSimpArgs false
set_option linter.unusedVariables false
open Go.RowKit
open Go.Proofs.Ytajpngnphbdnnaa.Sim
/-- The value v' is the value v with the blocks named anew: block i of v is block ρ i of v'. -/
inductive Ren (ρ : Nat → Nat) (n : Nat) : Value → Value → Prop
  | bool (b : Bool) : Ren ρ n (.bool b) (.bool b)
  | int (k : IntKind) (x : Int) : Ren ρ n (.int k x) (.int k x)
  | float (k : FloatKind) (x : Nat) : Ren ρ n (.float k x) (.float k x)
  | complex (k : FloatKind) (x y : Nat) : Ren ρ n (.complex k x y) (.complex k x y)
  | string (s : ByteArray) : Ren ρ n (.string s) (.string s)
  | ptrNil : Ren ρ n (.pointer none) (.pointer none)
  | ptr (i o : Nat) (h : i < n) : Ren ρ n (.pointer (some ⟨i, o, none⟩)) (.pointer (some ⟨ρ i, o, none⟩))
  | sliceNil : Ren ρ n (.slice none 0 0) (.slice none 0 0)
  | slice (i o l c : Nat) (h : i < n) : Ren ρ n (.slice (some ⟨i, o, none⟩) l c) (.slice (some ⟨ρ i, o, none⟩) l c)
  | sliceSpot (i o k : Nat) (h : i < n) : Ren ρ n (.slice (some ⟨i, o, some k⟩) 0 0) (.slice (some ⟨ρ i, o, some k⟩) 0 0)
  | mapNil : Ren ρ n (.map none) (.map none)
  | nilFunc : Ren ρ n .nilFunc .nilFunc
  | nilIface : Ren ρ n .nilIface .nilIface
  | func (fn : Fn) (f c f' c' : Array Value) (h1 : f.size = f'.size) (h2 : ∀ i, i < f.size → Ren ρ n (f.getD i undef) (f'.getD i undef))
      (h3 : c.size = c'.size) (h4 : ∀ i, i < c.size → Ren ρ n (c.getD i undef) (c'.getD i undef)) : Ren ρ n (.func fn f c) (.func fn f' c')
  | agg (c c' : Array Value) (h1 : c.size = c'.size) (h2 : ∀ i, i < c.size → Ren ρ n (c.getD i undef) (c'.getD i undef)) : Ren ρ n (.agg c) (.agg c')
  | tuple (c c' : Array Value) (h1 : c.size = c'.size) (h2 : ∀ i, i < c.size → Ren ρ n (c.getD i undef) (c'.getD i undef)) : Ren ρ n (.tuple c) (.tuple c')
def renPl (ρ : Nat → Nat) (n : Nat) (R : Pl) : Pl := fun i => if i < n then R (ρ i) else none
theorem Ren.rel {ρ : Nat → Nat} {n : Nat} {R : Pl} {v v' : Value} (h : Ren ρ n v v') : ∀ x, Rel R v' x → Rel (renPl ρ n R) v x := by
  induction h with
  | bool b => intro x hx; cases hx; exact .bool b
  | int k q => intro x hx; cases hx; exact .int k q
  | float k q => intro x hx; cases hx; exact .float k q
  | complex k q r => intro x hx; cases hx; exact .complex k q r
  | string s => intro x hx; cases hx; exact .string s
  | ptrNil => intro x hx; cases hx; exact .ptrNil
  | ptr i o hi => intro x hx; cases hx with | ptr _ _ p hp => exact .ptr i o p (by simp [renPl, hi, hp])
  | sliceNil => intro x hx; cases hx; exact .sliceNil
  | slice i o l c hi => intro x hx; cases hx with | slice _ _ _ _ p hp hn => exact .slice i o l c p (by simp [renPl, hi, hp]) hn
  | sliceSpot i o k hi => intro x hx; cases hx with | sliceSpot _ _ _ p hp => exact .sliceSpot i o k p (by simp [renPl, hi, hp])
  | mapNil => intro x hx; cases hx; exact .mapNil
  | nilFunc => intro x hx; cases hx; exact .nilFunc
  | nilIface => intro x hx; cases hx; exact .nilIface
  | func fn f c f' c' h1 _ h3 _ i1 i2 =>
    intro x hx
    cases hx with
    | func _ _ _ f2 c2 k1 k2 k3 k4 => exact .func fn f c f2 c2 (h1.trans k1) (fun i hi => i1 i hi _ (k2 i (by omega))) (h3.trans k3) (fun i hi => i2 i hi _ (k4 i (by omega)))
  | agg c c' h1 _ i1 =>
    intro x hx
    cases hx with
    | agg _ c2 k1 k2 => exact .agg c c2 (h1.trans k1) (fun i hi => i1 i hi _ (k2 i (by omega)))
  | tuple c c' h1 _ i1 =>
    intro x hx
    cases hx with
    | tuple _ c2 k1 k2 => exact .tuple c c2 (h1.trans k1) (fun i hi => i1 i hi _ (k2 i (by omega)))
/-- What lies in a memory names only its blocks. -/
theorem Ren.of_rel {ρ : Nat → Nat} {n N : Nat} {R : Pl} {v x : Value} (h : Rel R v x) (hR : ∀ i, N ≤ i → R i = none) (hN : N ≤ n) (hρ : ∀ i, i < N → ρ i = i) : Ren ρ n v v := by
  have lt : ∀ i p, R i = some p → i < N := fun i p hp => by
    rcases Nat.lt_or_ge i N with h | h
    · exact h
    · rw [hR i h] at hp; cases hp
  induction h with
  | bool b => exact .bool b
  | int k q => exact .int k q
  | float k q => exact .float k q
  | complex k q r => exact .complex k q r
  | string s => exact .string s
  | ptrNil => exact .ptrNil
  | ptr i o p hp =>
    have hi := lt i p hp
    have := Ren.ptr (ρ := ρ) (n := n) i o (by omega)
    rwa [hρ i hi] at this
  | sliceNil => exact .sliceNil
  | slice i o l c p hp _ =>
    have hi := lt i p hp
    have := Ren.slice (ρ := ρ) (n := n) i o l c (by omega)
    rwa [hρ i hi] at this
  | sliceSpot i o k p hp =>
    have hi := lt i p hp
    have := Ren.sliceSpot (ρ := ρ) (n := n) i o k (by omega)
    rwa [hρ i hi] at this
  | mapNil => exact .mapNil
  | nilFunc => exact .nilFunc
  | nilIface => exact .nilIface
  | func fn f c f' c' h1 _ h3 _ i1 i2 => exact .func fn f c f c rfl i1 rfl i2
  | agg c c' h1 _ i1 => exact .agg c c rfl i1
  | tuple c c' h1 _ i1 => exact .tuple c c rfl i1
/-- From (t, m) one may go on as from (t1, m1); the blocks of m0 keep their names. -/
def Gc (m0 : AM) (t : Fm) (m : AM) (t1 : Fm) (m1 : AM) : Prop :=
  ∃ ρ : Nat → Nat, m0.length ≤ m1.length ∧ (∀ j, j < m0.length → ρ j = j) ∧
    (∀ (i j : Nat) (b c : Blk), m1[i]? = some (some b) → m1[j]? = some (some c) → ρ i = ρ j → i = j) ∧
    (∀ (j : Nat) (b : Blk), m1[j]? = some (some b) → (j < m0.length ∧ m[j]? = some (some b) ∧ m0[j]? = some (some b)) ∨
      ∃ b', m[ρ j]? = some (some b') ∧ b.kind = b'.kind ∧ b.size = b'.size ∧ b.cells.length = b'.cells.length ∧ ∀ (k : Nat) (v : Value), b.cells[k]? = some v → ∃ v', b'.cells[k]? = some v' ∧ Ren ρ m1.length v v') ∧
    (∀ i v, t1 i = some v → ∃ v', t i = some v' ∧ Ren ρ m1.length v v')
section
variable {P : Program} {base n nt : Nat} {R R0 : Pl} {m m0 m1 : AM} {w w0 : World} {t t1 : Fm} {u : Array Value} {Q Q' : AEx → Fm → AM → Prop}
theorem Gc.ok (h : Gc m0 t m t1 m1) (h0 : MRep base R0 m0 w0) (hp : Post base m0 m R0 R w0 w) (ht : FR R nt t u) : ∃ R1, Post base m0 m1 R0 R1 w0 w ∧ FR R1 nt t1 u := by
  obtain ⟨ρ, hl, hid, hinj, hm, hf⟩ := h
  have lt0 : ∀ i p, R0 i = some p → i < m0.length := fun i p hp => by
    rcases Nat.lt_or_ge i m0.length with h | h
    · exact h
    · rw [h0.none_ i h] at hp; cases hp
  have hm' : ∀ (j : Nat) (b : Blk), m1[j]? = some (some b) → ∃ b', m[ρ j]? = some (some b') ∧ b.kind = b'.kind ∧ b.size = b'.size ∧ b.cells.length = b'.cells.length ∧ ∀ (k : Nat) (v : Value), b.cells[k]? = some v → ∃ v', b'.cells[k]? = some v' ∧ Ren ρ m1.length v v' := by
    intro j b hj
    rcases hm j b hj with ⟨h1, h2, h3⟩ | h
    · refine ⟨b, by rw [hid j h1]; exact h2, rfl, rfl, rfl, fun k v hk => ⟨v, hk, ?_⟩⟩
      obtain ⟨p, k1, k2⟩ := h0.rep j b h3
      obtain ⟨x, _, hx⟩ := k2.cell hk
      exact Ren.of_rel hx h0.none_ hl hid
    · exact h
  have hrep := hp.rep
  refine ⟨renPl ρ m1.length R, ⟨fun i p hi => ?_, ⟨fun i hi => ?_, fun j b hj => ?_, fun i j b c p q hi hj hb hc hne hpi hqj => ?_⟩, hp.os, hp.tape, hp.output, hp.size, hp.keep, fun k ho => ?_⟩, ⟨ht.size, fun i v hi => ?_⟩⟩
  · have hi' := lt0 i p hi
    simp only [renPl, show i < m1.length by omega, if_true, hid i hi']
    exact hp.le i p hi
  · simp only [renPl, show ¬ i < m1.length by omega, if_false]
  · obtain ⟨b', h1, h2, h3, h3', h4⟩ := hm' j b hj
    obtain ⟨p, k1, k2⟩ := hrep.rep (ρ j) b' h1
    have hlt : j < m1.length := (List.getElem?_eq_some_iff.1 hj).1
    refine ⟨p, by simp only [renPl, hlt, if_true]; exact k1, ?_⟩
    unfold BRep at k2 ⊢
    obtain ⟨q0, k2⟩ := k2
    refine ⟨q0, ?_⟩
    rw [← h2] at k2
    cases hk : b.kind with
    | ro =>
      rw [hk] at k2
      refine ⟨fun e => k2.1 (by rw [← h3]; exact e), fun k v hv => ?_⟩
      obtain ⟨v', r1, r2⟩ := h4 k v hv
      obtain ⟨x, r3, r4⟩ := k2.2 k v' r1
      exact ⟨x, r3, r2.rel x r4⟩
    | edge =>
      rw [hk] at k2
      refine ⟨?_, k2.2⟩
      have := h3'
      rw [k2.1] at this
      exact List.eq_nil_of_length_eq_zero this
    | own =>
      rw [hk] at k2
      obtain ⟨cur, ty, r1, r2, r3, r4, r5⟩ := k2
      refine ⟨cur, ty, r1, r2, by rw [h3', h3]; exact r3, r4, fun k v hv => ?_⟩
      obtain ⟨v', s1, s2⟩ := h4 k v hv
      obtain ⟨x, s3, s4, s5⟩ := r5 k v' s1
      exact ⟨x, s3, s2.rel x s4, s5⟩
    | grow =>
      rw [hk] at k2
      obtain ⟨cur, ty, r1, r2, r3, r4, r5⟩ := k2
      refine ⟨cur, ty, r1, r2, by rw [h3', h3]; exact r3, r4, fun k v hv => ?_⟩
      obtain ⟨v', s1, s2⟩ := h4 k v hv
      obtain ⟨x, s3, s4, s5⟩ := r5 k v' s1
      exact ⟨x, s3, s2.rel x s4, s5⟩
  · obtain ⟨b', h1, h2, _⟩ := hm' i b hi
    obtain ⟨c', k1, k2, _⟩ := hm' j c hj
    have hi' : i < m1.length := (List.getElem?_eq_some_iff.1 hi).1
    have hj' : j < m1.length := (List.getElem?_eq_some_iff.1 hj).1
    simp only [renPl, hi', hj', if_true] at hpi hqj
    exact hrep.apart (ρ i) (ρ j) b' c' p q h1 k1 (by rw [← h2]; exact hb) (by rw [← k2]; exact hc) (fun e => hne (hinj i j b c hi hj e)) hpi hqj
  · obtain ⟨i, b, p, h1, h2, h3, h4⟩ := ho
    obtain ⟨b', k1, k2, _⟩ := hm' i b h1
    have hi' : i < m1.length := (List.getElem?_eq_some_iff.1 h1).1
    simp only [renPl, hi', if_true] at h3
    exact hp.sub k ⟨ρ i, b', p, k1, by rw [← k2]; exact h2, h3, h4⟩
  · obtain ⟨v', h1, h2⟩ := hf i v hi
    exact h2.rel _ (ht.rel i v' h1)
def AW (P : Program) (nt : Nat) (m0 : AM) (c : Code) (t : Fm) (m : AM) (Q : AEx → Fm → AM → Prop) : Prop :=
  ∀ (base : Nat) (R0 : Pl) (w0 : World) (R : Pl) (a : Act) (w : World), base ≤ w0.heap.size → MRep base R0 m0 w0 → Post base m0 m R0 R w0 w → FR R nt t a.tmps →
    c.wp P (fun ex a' w' => ∃ e t' m' R', ex = AEx.to e ∧ a'.defers = a.defers ∧ Post base m0 m' R0 R' w0 w' ∧ FR R' nt t' a'.tmps ∧ Q e t' m') a w
theorem AW.mono {c : Code} (h : AW P nt m0 c t m Q) (hq : ∀ e t m, Q e t m → Q' e t m) : AW P nt m0 c t m Q' :=
  fun base R0 w0 R a w hb h0 hp ht => wp_mono (h base R0 w0 R a w hb h0 hp ht) fun _ _ _ ⟨e, t', m', R', h1, h2, h3, h4, h5⟩ => ⟨e, t', m', R', h1, h2, h3, h4, hq _ _ _ h5⟩
theorem AW.gc {c : Code} (hg : Gc m0 t m t1 m1) (h : AW P nt m0 c t1 m1 Q) : AW P nt m0 c t m Q := by
  intro base R0 w0 R a w hb h0 hp ht
  obtain ⟨R1, k1, k2⟩ := hg.ok h0 hp ht
  exact h base R0 w0 R1 a w hb h0 k1 k2
theorem AW.skip (h : Q .normal t m) : AW P nt m0 .skip t m Q := fun _ _ _ R _ _ _ _ hp ht => wp_skip ⟨.normal, t, m, R, rfl, rfl, hp, ht, h⟩
theorem AW.ret (h : Q .ret t m) : AW P nt m0 .ret t m Q := fun _ _ _ R _ _ _ _ hp ht => wp_ret ⟨.ret, t, m, R, rfl, rfl, hp, ht, h⟩
theorem AW.exit {id : Nat} (h : Q (.exit id) t m) : AW P nt m0 (.exit id) t m Q := fun _ _ _ R _ _ _ _ hp ht => wp_exit ⟨.exit id, t, m, R, rfl, rfl, hp, ht, h⟩
def Then (K : Fm → AM → Prop) (Q : AEx → Fm → AM → Prop) : AEx → Fm → AM → Prop
  | .normal, t, m => K t m
  | .exit i, t, m => Q (.exit i) t m
  | .ret, t, m => Q .ret t m
theorem AW.seq {a b : Code} (h : AW P nt m0 a t m (Then (fun t m => AW P nt m0 b t m Q) Q)) : AW P nt m0 (.seq a b) t m Q := by
  intro base R0 w0 R ac w hb h0 hp ht
  refine wp_seq (wp_mono (h base R0 w0 R ac w hb h0 hp ht) ?_)
  rintro ex a' w' ⟨e, t', m', R', rfl, h2, h3, h4, h5⟩
  cases e with
  | normal =>
    refine wp_mono (h5 base R0 w0 R' a' w' hb h0 h3 h4) ?_
    rintro ex a2 w2 ⟨e, t2, m2, R2, k1, k2, k3, k4, k5⟩
    exact ⟨e, t2, m2, R2, k1, k2.trans h2, k3, k4, k5⟩
  | exit i => exact ⟨.exit i, t', m', R', rfl, h2, h3, h4, h5⟩
  | ret => exact ⟨.ret, t', m', R', rfl, h2, h3, h4, h5⟩
theorem AW.cond {c : Operand} {a b : Code} {q : Bool} (hc : evo t c = some (.bool q)) (h1 : q = true → AW P nt m0 a t m Q) (h2 : q = false → AW P nt m0 b t m Q) : AW P nt m0 (.cond c a b) t m Q := by
  intro base R0 w0 R ac w hb h0 hp ht
  have hr := evo_rel ht hc
  have he : ac.eval c = .bool q := by generalize ac.eval c = y at hr; cases hr; rfl
  exact wp_cond_split he (fun e => h1 e base R0 w0 R ac w hb h0 hp ht) (fun e => h2 e base R0 w0 R ac w hb h0 hp ht)
def InBlk (id : Nat) (Q : AEx → Fm → AM → Prop) : AEx → Fm → AM → Prop
  | .exit i, t, m => if i = id then Q .normal t m else Q (.exit i) t m
  | .normal, t, m => Q .normal t m
  | .ret, t, m => Q .ret t m
theorem AW.block {id : Nat} {c : Code} (h : AW P nt m0 c t m (InBlk id Q)) : AW P nt m0 (.block id c) t m Q := by
  intro base R0 w0 R ac w hb h0 hp ht
  refine wp_block (wp_mono (h base R0 w0 R ac w hb h0 hp ht) ?_)
  rintro ex a' w' ⟨e, t', m', R', rfl, h2, h3, h4, h5⟩
  cases e with
  | normal => exact ⟨.normal, t', m', R', rfl, h2, h3, h4, h5⟩
  | ret => exact ⟨.ret, t', m', R', rfl, h2, h3, h4, h5⟩
  | exit i =>
    simp only [AEx.to, Exit.inBlock]
    simp only [InBlk] at h5
    split
    · rename_i hi
      rw [if_pos hi] at h5
      exact ⟨.normal, t', m', R', rfl, h2, h3, h4, h5⟩
    · rename_i hi
      rw [if_neg hi] at h5
      exact ⟨.exit i, t', m', R', rfl, h2, h3, h4, h5⟩
theorem least (p : Nat → Prop) : (∃ n, p n) → ∃ n, p n ∧ ∀ k, k < n → ¬ p k := by
  intro ⟨n, hn⟩
  induction n using Nat.strongRecOn with
  | _ n ih =>
    by_cases h : ∃ k, k < n ∧ p k
    · obtain ⟨k, h1, h2⟩ := h
      exact ih k h1 h2
    · exact ⟨n, hn, fun k hk hp => h ⟨k, hk, hp⟩⟩
theorem AW.loop {c : Code} (I : Nat → Fm → AM → Prop) (h0 : ∃ k t1 m1, Gc m0 t m t1 m1 ∧ I k t1 m1)
    (round : ∀ k t m, I k t m → AW P nt m0 c t m (Then (fun t' m' => ∃ k' t1 m1, k' < k ∧ Gc m0 t' m' t1 m1 ∧ I k' t1 m1) Q)) : AW P nt m0 (.loop c) t m Q := by
  intro base R0 w0 R ac w hb hm0 hp ht
  let J : Nat → Act → World → Prop := fun k a w => ∃ t m R, I k t m ∧ Post base m0 m R0 R w0 w ∧ FR R nt t a.tmps ∧ a.defers = ac.defers
  have hJ0 : ∃ k, J k ac w := by
    obtain ⟨k, t1, m1, hg, hI⟩ := h0
    obtain ⟨R1, k1, k2⟩ := hg.ok hm0 hp ht
    exact ⟨k, t1, m1, R1, hI, k1, k2, rfl⟩
  open Classical in
  let μ : Act → World → Nat := fun a w => if h : ∃ k, J k a w then Classical.choose (least _ h) else 0
  have hμ : ∀ a w (h : ∃ k, J k a w), J (μ a w) a w ∧ ∀ k, J k a w → μ a w ≤ k := fun a w h => by
    have hs := Classical.choose_spec (least _ h)
    have e : μ a w = Classical.choose (least _ h) := dif_pos h
    rw [e]
    exact ⟨hs.1, fun k hk => Nat.le_of_not_lt fun hlt => hs.2 k hlt hk⟩
  refine wp_loop (fun a w => ∃ k, J k a w) μ hJ0 fun a w hJ => ?_
  obtain ⟨⟨t2, m2, R2, q1, q2, q3, q4⟩, _⟩ := hμ a w hJ
  refine wp_mono (round _ _ _ q1 base R0 w0 R2 a w hb hm0 q2 q3) ?_
  rintro ex a' w' ⟨e, t', m', R', rfl, h2, h3, h4, h5⟩
  cases e with
  | normal =>
    obtain ⟨k', t1, m1, r1, r2, r3⟩ := h5
    obtain ⟨R1, s1, s2⟩ := r2.ok hm0 h3 h4
    have hJ' : J k' a' w' := ⟨t1, m1, R1, r3, s1, s2, h2.trans q4⟩
    exact ⟨⟨k', hJ'⟩, Nat.lt_of_le_of_lt ((hμ a' w' ⟨k', hJ'⟩).2 k' hJ') r1⟩
  | exit i => exact ⟨.exit i, t', m', R', rfl, h2.trans q4, h3, h4, h5⟩
  | ret => exact ⟨.ret, t', m', R', rfl, h2.trans q4, h3, h4, h5⟩
theorem AW.reg {id : Nat} {ops : Array Oper} {l : List Nat} (hl : List.range ops.size = l) (h : AWi P nt ops l t m (fun t m => Q .normal t m)) : AW P nt m0 (.region id ops false) t m Q := by
  intro base R0 w0 R ac w hb h0 hp ht
  refine wp_region ?_
  rw [hl]
  refine AWi.ok l t m R w ac h (Nat.le_trans hb hp.size) hp.rep ht ?_
  intro R' t' m' a' w' k1 k2 k3 k4
  exact ⟨.normal, t', m', R', rfl, k1, hp.trans k3, k2, k4⟩
theorem AW.all (hP : Fit P) {id : Nat} {ops : Array Oper} (h : AWd P nt ops (fun t m => Q .normal t m) ops.size (Array.replicate ops.size false) t m) : AW P nt m0 (.region id ops true) t m Q := by
  intro base R0 w0 R ac w hb h0 hp ht
  refine wp_region_any hP.mixed ?_
  have hd := Post.drew hp.rep
  refine AWd.ok ops.size _ t m R _ ac h (by have := hp.size; simpa using Nat.le_trans hb this) hd.rep ht ?_
  intro R' t' m' a' w' k1 k2 k3 k4
  exact ⟨.normal, t', m', R', rfl, k1, (hp.trans hd).trans k3, k2, k4⟩
theorem AW.draw (hP : Fit P) {id : Nat} {ops : Array Oper} {l : List Nat} (hl : plan P ops ops.size (Array.replicate ops.size false) = some l) (h : AWi P nt ops l t m (fun t m => Q .normal t m)) : AW P nt m0 (.region id ops true) t m Q :=
  .all hP (plan_ok _ _ _ _ _ (by simp) hl h)
def ACall (P : Program) (f : FuncId) (args : Array Value) (m : AM) (Q : Value → AM → Prop) : Prop :=
  ∀ (base : Nat) (R : Pl) (w : World) (args' : Array Value), base ≤ w.heap.size → MRep base R m w → Rels R args args' →
    Calls P f args' w fun e w' => ∃ v v' R' m', e = .returned v' ∧ Rel R' v v' ∧ Post base m m' R R' w w' ∧ Q v m'
theorem ACall.mono {f : FuncId} {args : Array Value} {Q Q' : Value → AM → Prop} (h : ACall P f args m Q) (hq : ∀ v m', Q v m' → Q' v m') : ACall P f args m Q' :=
  fun base R w args' hb hm ha => (h base R w args' hb hm ha).mono fun _ _ ⟨v, v', R', m', h1, h2, h3, h4⟩ => ⟨v, v', R', m', h1, h2, h3, hq _ _ h4⟩
def ares1 (P : Program) (t : Fm) (m : AM) : ResultVar → Option Value
  | .tmp i => t i
  | .cell a ty => match t a with
    | some p => aload P m ty p
    | none => none
def aresL (P : Program) (t : Fm) (m : AM) : List ResultVar → Option (List Value)
  | [] => some []
  | r :: rest => match ares1 P t m r, aresL P t m rest with
    | some v, some l => some (v :: l)
    | _, _ => none
def ares (P : Program) (fn : Func) (t : Fm) (m : AM) : Option Value :=
  match aresL P t m fn.results.toList with
  | some [v] => some v
  | some l => some (.tuple l.toArray)
  | none => none
theorem aresL_ok {n : Nat} (h : MRep base R m w) (ht : FR R n t u) : ∀ (l : List ResultVar) (vs : List Value), aresL P t m l = some vs →
    ∃ vs', RelL R vs vs' ∧ (l.mapM (res1 u)).run P w = .ok vs' w
  | [], vs, he => by simp [aresL] at he; subst he; exact ⟨[], .nil, by simp⟩
  | r :: rest, vs, he => by
    simp only [aresL] at he
    split at he
    · rename_i v l h1 h2
      injection he with he; subst he
      obtain ⟨l', k1, k2⟩ := aresL_ok h ht rest l h2
      have : ∃ v', Rel R v v' ∧ (res1 u r).run P w = .ok v' w := by
        cases r with
        | tmp i => exact ⟨_, ht.rel i v h1, rfl⟩
        | cell a ty =>
          simp only [ares1] at h1
          split at h1
          · rename_i p hpa
            have hg := ht.rel a p hpa
            obtain ⟨v', q1, q2⟩ := aload_ok (w := w) h.held hg h1
            refine ⟨v', q2, ?_⟩
            unfold aload at h1
            split at h1
            · have hres : res1 u (.cell a ty) = (do loadVar ty (← asAddr (u.getD a undef))) := rfl
              rw [hres]
              generalize u.getD a undef = q at hg q1 ⊢
              cases hg
              simpa [Instr.loadAt, Instr.sureAddr, asAddr] using q1
            · cases h1
          · cases h1
      obtain ⟨v', q1, q2⟩ := this
      refine ⟨v' :: l', .cons q1 k1, ?_⟩
      simp only [List.mapM_cons]
      simp only [Sem.run_bind, q2, k2, Result.andThen_ok]
      rfl
    · cases he
theorem ares_ok {fn : Func} {n : Nat} {v : Value} (h : MRep base R m w) (ht : FR R n t u) (he : ares P fn t m = some v) : ∃ v', Rel R v v' ∧ (results fn u).run P w = .ok v' w := by
  unfold ares at he
  have key : ∀ l, aresL P t m fn.results.toList = some l → ∃ l', RelL R l l' ∧ (results fn u).run P w = .ok (if h : l'.toArray.size = 1 then l'.toArray[0] else .tuple l'.toArray) w := fun l hl => by
    obtain ⟨l', k1, k2⟩ := aresL_ok (P := P) h ht _ _ hl
    refine ⟨l', k1, ?_⟩
    rw [results_eq]
    simp only [map_eq_pure_bind, Sem.run_bind, k2, Result.andThen_ok]
    rfl
  split at he
  · rename_i x hl
    injection he with he; subst he
    obtain ⟨l', k1, k2⟩ := key _ hl
    refine ⟨_, ?_, k2⟩
    match l', k1 with
    | [y], k1 =>
      obtain ⟨v', e1, e2⟩ := k1.2 0 x rfl
      simp at e1; subst e1
      simpa using e2
    | [], k1 => have := k1.1; simp at this
    | _ :: _ :: _, k1 => have := k1.1; simp at this
  · rename_i l hne hl
    injection he with he; subst he
    obtain ⟨l', k1, k2⟩ := key _ hl
    refine ⟨_, ?_, k2⟩
    match l, l', k1 with
    | [], [], _ => exact .tuple _ _ rfl (fun i hi => absurd hi (by simp))
    | [x], _, _ => exact (hne x rfl).elim
    | x :: y :: r, x' :: y' :: r', k1 =>
      have := k1.rels
      simpa using Rel.tuple _ _ this.1 this.2
    | [], _ :: _, k1 => have := k1.1; simp at this
    | _ :: _ :: _, [], k1 => have := k1.1; simp at this
    | _ :: _ :: _, [_], k1 => have := k1.1; simp at this
  · cases he
def argF (args : Array Value) : Fm := fun i => args.toList[i]?
/-- What the end of a body owes. -/
def Ends (P : Program) (fn : Func) (Q : Value → AM → Prop) : AEx → Fm → AM → Prop
  | .exit _, _, _ => False
  | _, t, m => ∃ v, ares P fn t m = some v ∧ Q v m
theorem ACall.intro {f : FuncId} {fn : Func} {c : Code} {args : Array Value} {Q : Value → AM → Prop} (hf : P.funcs[f]? = some fn) (hb : fn.body = some c) (hsz : args.size ≤ fn.ntmps)
    (h : AW P fn.ntmps m c (argF args) m (Ends P fn Q)) : ACall P f args m Q := by
  intro base R w args' hbase hm hargs
  refine calls_of_wp hf hb ?_
  have hs := hargs.1
  refine wp_mono (h base R w R ⟨args' ++ Array.replicate (fn.ntmps - args'.size) undef, []⟩ w hbase hm (.refl hm) ⟨by simp; omega, fun i v hi => ?_⟩) ?_
  · have hi : args[i]? = some v := by simpa [argF] using hi
    have hlt : i < args.size := (Array.getElem?_eq_some_iff.1 hi).1
    have := hargs.2 i hlt
    have e1 : args.getD i undef = v := by
      simp [hi]
    rw [e1] at this
    have e2 : (args' ++ Array.replicate (fn.ntmps - args'.size) undef).getD i undef = args'.getD i undef := by
      simp [Array.getElem?_append_left (show i < args'.size by omega)]
    show Rel R v ((args' ++ Array.replicate (fn.ntmps - args'.size) undef).getD i undef)
    rw [e2]; exact this
  · rintro ex a' w' ⟨e, t', m', R', rfl, h2, h3, h4, h5⟩
    cases e with
    | exit i => exact h5.elim
    | normal =>
      obtain ⟨v, k1, k2⟩ := h5
      obtain ⟨v', r1, r2⟩ := ares_ok (P := P) h3.rep h4 k1
      exact ⟨h2, v', r2, v, v', R', m', rfl, r1, h3, k2⟩
    | ret =>
      obtain ⟨v, k1, k2⟩ := h5
      obtain ⟨v', r1, r2⟩ := ares_ok (P := P) h3.rep h4 k1
      exact ⟨h2, v', r2, v, v', R', m', rfl, r1, h3, k2⟩
/-- A call of a function of the program, as an operation. -/
theorem loud_call (hP : Fit P) {o : Oper} {c : Call} {x : Operand} {ev : Operand → Value} {g : FuncId} {first captured : Array Value} {K : Value → AM → Prop} (ho : o.op = .call c) (hc : c.callee = .value x) (hx : ev x = .func (.func g) first captured)
    {fn : Func} {b : Code} (hf : P.funcs[g]? = some fn) (hb : fn.body = some b) (h : ACall P g (first ++ c.args.map ev ++ captured) m K) : Loud P o ev m K := by
  intro base R w a Q next hbase hm hev hn
  obtain ⟨dst, op, type, pos, after, guard⟩ := o
  simp only at ho; subst ho
  obtain ⟨callee, cargs, ctypes⟩ := c
  simp only at hc; subst hc
  have hxr := hev x (by simp [Op.operands, Call.operands])
  rw [hx] at hxr
  generalize hq : a.eval x = q at hxr
  cases hxr with
  | func _ _ _ f' c' k1 k2 k3 k4 =>
    have hargs := rels_map (R := R) (ev := ev) (ev' := a.eval) cargs (fun y hy => hev y (by simp [Op.operands, Call.operands, hy]))
    have hrun : (execOp a.eval { dst := dst, op := .call { callee := .value x, args := cargs, argTypes := ctypes }, type := type, pos := pos, after := after, guard := guard : Oper }).run P w = .ok (.enter g (f' ++ cargs.map a.eval ++ c')) w := by
      simp [execOp, resolve, hq, Deferred.ofValue, invoke, run_enter hf (hP.names _ _ hf) hb]
    unfold Oper.wp
    rw [hrun]
    refine (h base R w _ hbase hm (rels_app (rels_app ⟨k1, k2⟩ hargs) ⟨k3, k4⟩)).mono ?_
    rintro e w' ⟨v, v', R', m', rfl, q1, q2, q3⟩
    exact hn R' v v' m' w' q1 q2 q3
/-- A call that takes no memory, by its contract in the real world. -/
theorem ACall.of_calls {f : FuncId} {args : Array Value} {v : Value} (hg : args.all g1 = true) (hv : g1 v = true) (h : ∀ w, Calls P f args w fun e w' => e = .returned v ∧ Below w.heap.size w w') :
    ACall P f args m (fun v' m' => v' = v ∧ m' = m) := by
  intro base R w args' hb hm hargs
  have he : args' = args := ext_getD hargs.1.symm fun i hi => g1_eq (all_getD hg (by rw [hargs.1]; exact hi)) (hargs.2 i (by rw [hargs.1]; exact hi))
  subst he
  refine (h w).mono ?_
  rintro e w' ⟨rfl, hb'⟩
  exact ⟨v, v, R, m, rfl, g1_rel hv, ⟨.refl R, hm.kept hb'.block, hb'.os, hb'.tape, hb'.output, hb'.size, fun k hk _ => hb'.block k hk, fun _ h => .inr h⟩, rfl, rfl⟩
end
end Go.Proofs.Ytajpngnphbdnnaa.Abs
namespace Go.Proofs.Ytajpngnphbdnnaa.Abs
set_option linter.unusedSimpArgs false
set_option linter.unusedVariables false
open Go.RowKit
open Go.Proofs.Ytajpngnphbdnnaa.Sim
def evD (t : Fm) : Operand → Value := fun x => (evo t x).getD undef
theorem evD_of {t : Fm} {x : Operand} {v : Value} (h : evo t x = some v) : evD t x = v := by simp [evD, h]
theorem kn_of {t : Fm} {o : Oper} (h : ∀ x ∈ o.op.operands.toList, ∃ v, evo t x = some v) : Kn t o (evD t) := fun x hx => by
  obtain ⟨v, hv⟩ := h x (by simpa using hx)
  rw [hv, evD_of hv]
/-- A cell that is known. -/
def Rd (m : AM) (i o : Nat) (v : Value) : Prop := ∃ b, m[i]? = some (some b) ∧ b.cells[o]? = some v
/-- A slice of n elements whose first cell is o of block a; it may be nil if it is empty. -/
def Sl (v : Value) (a o n : Nat) : Prop := (v = .slice none 0 0 ∧ n = 0) ∨ (∃ c, n ≤ c ∧ v = .slice (some ⟨a, o, none⟩) n c) ∨ (n = 0 ∧ ∃ o' k, v = .slice (some ⟨a, o', some k⟩) 0 0)
def slB (P : Program) (T : TypeId) : Bool := match P.underlying T with
  | some (.slice _) => true
  | _ => false
def elB (P : Program) (T : TypeId) : Option Nat := match P.underlying T with
  | some (.slice e) => szB P e
  | _ => none
def arB (P : Program) (T : TypeId) : Option (Nat × Nat) := match P.underlying T with
  | some (.array n e) => (szB P e).map fun s => (n, s)
  | _ => none
def foB (P : Program) (T : TypeId) (f : Nat) : Option Nat := match P.underlying T with
  | some (.struct fs) => match fs[f]? with
    | some fd => match szB P fd.type with
      | some (_ + 1) => some fd.offset
      | _ => none
    | none => none
  | _ => none
section
variable {P : Program} {nt : Nat} {ops : Array Oper} {t : Fm} {m : AM} {K : Fm → AM → Prop} {d T : Nat} {p : String} {af : Array Edge}
theorem Step.q {o : Oper} {v : Value} (hd : o.dst = some d) (hg : o.guard = none) (hlt : Nat.blt d nt = true) (hk : ∀ x ∈ o.op.operands.toList, ∃ v, evo t x = some v) (hq : aquiet P o (evD t) m = some v) (hK : K (put t d v) m) : Step P nt ops o t m K := by
  refine ⟨fun e he => ?_, ?_⟩
  · rw [hd] at he; injection he with he; subst he; simpa using hlt
  · rw [hg]
    exact ⟨evD t, kn_of hk, .inl ⟨v, hq, by rw [hd]; exact hK⟩⟩
theorem Step.l {o : Oper} (hd : o.dst = some d) (hg : o.guard = none) (hlt : Nat.blt d nt = true) (hs : stillB P o.op = false) (hk : ∀ x ∈ o.op.operands.toList, ∃ v, evo t x = some v) (hl : Loud P o (evD t) m fun v m' => K (put t d v) m') : Step P nt ops o t m K := by
  refine ⟨fun e he => ?_, ?_⟩
  · rw [hd] at he; injection he with he; subst he; simpa using hlt
  · rw [hg]
    exact ⟨evD t, kn_of hk, .inr ⟨hs, by rw [hd]; exact hl⟩⟩
theorem Step.l0 {o : Oper} (hd : o.dst = none) (hg : o.guard = none) (hs : stillB P o.op = false) (hk : ∀ x ∈ o.op.operands.toList, ∃ v, evo t x = some v) (hl : Loud P o (evD t) m fun _ m' => K t m') : Step P nt ops o t m K := by
  refine ⟨fun e he => (by rw [hd] at he; cases he), ?_⟩
  rw [hg]
  exact ⟨evD t, kn_of hk, .inr ⟨hs, by rw [hd]; exact hl⟩⟩
theorem Step.gd {o : Op} {dd : Option Tmp} {j : Nat} {b q : Bool} (hd : ∀ d, dd = some d → d < nt) (hv : gval ops t j = some (.bool q)) (h1 : q = b → Step P nt ops ⟨dd, o, T, p, af, none⟩ t m K) (h2 : q = !b → K (putO t dd undef) m) : Step P nt ops ⟨dd, o, T, p, af, some (j, b)⟩ t m K := by
  refine ⟨hd, .bool q, hv, ?_⟩
  by_cases h : q = b
  · subst h
    rw [if_pos (by simp [wantB])]
    have := (h1 rfl).2
    exact this
  · rw [if_neg (by simp [wantB, h])]
    exact h2 (by cases q <;> cases b <;> simp_all)
theorem Step.move {x : Operand} {v : Value} (hx : evo t x = some v) (hlt : Nat.blt d nt = true) (hK : K (put t d v) m) : Step P nt ops ⟨some d, .move x, T, p, af, none⟩ t m K :=
  .q rfl rfl hlt (by simp [Op.operands, hx]) (by simp [aquiet, evD_of hx]) hK
theorem Step.assign {x : Operand} {v : Value} (hx : evo t x = some v) (hlt : Nat.blt d nt = true) (hK : K (put t d v) m) : Step P nt ops ⟨some d, .assign x, T, p, af, none⟩ t m K :=
  .q rfl rfl hlt (by simp [Op.operands, hx]) (by simp [aquiet, evD_of hx]) hK
theorem Step.pick {c x y : Operand} {q : Bool} {v u : Value} (hc : evo t c = some (.bool q)) (hx : evo t x = some v) (hy : evo t y = some u) (hlt : Nat.blt d nt = true) (h1 : q = true → K (put t d v) m) (h2 : q = false → K (put t d u) m) : Step P nt ops ⟨some d, .pick c x y, T, p, af, none⟩ t m K := by
  refine .q rfl rfl hlt (by simp [Op.operands, hc, hx, hy]) (v := if q then v else u) (by simp [aquiet, evD_of hc, evD_of hx, evD_of hy]) ?_
  cases q
  · exact h2 rfl
  · exact h1 rfl
theorem Step.load {x : Operand} {ty i o : Nat} {v : Value} (hx : evo t x = some (.pointer (some ⟨i, o, none⟩))) (hg : aggB P ty = some false) (hlt : Nat.blt d nt = true) (hr : Rd m i o v) (hK : K (put t d v) m) : Step P nt ops ⟨some d, .load ty x, T, p, af, none⟩ t m K := by
  obtain ⟨b, h1, h2⟩ := hr
  exact .q rfl rfl hlt (by simp [Op.operands, hx]) (by simp [aquiet, evD_of hx, aload, hg, h1, h2]) hK
/-- A whole struct or array. -/
theorem Step.loads {x : Operand} {ty i o n : Nat} {b : Blk} {c : List Value} (hx : evo t x = some (.pointer (some ⟨i, o, none⟩))) (hg : aggB P ty = some true) (hn : szB P ty = some n) (hlt : Nat.blt d nt = true) (h1 : m[i]? = some (some b)) (h2 : (b.cells.drop o).take n = c) (h3 : c.length = n) (hn1 : 1 ≤ n) (hK : K (put t d (.agg c.toArray)) m) :
    Step P nt ops ⟨some d, .load ty x, T, p, af, none⟩ t m K := by
  have h0 : o + n ≤ b.cells.length := by
    rw [← h2] at h3
    simp at h3
    omega
  exact .q rfl rfl hlt (by simp [Op.operands, hx]) (by simp [aquiet, evD_of hx, aload, hg, hn, h1, h0, h2]) hK
theorem Step.field {x : Operand} {s f i o k : Nat} (hx : evo t x = some (.pointer (some ⟨i, o, none⟩))) (hf : foB P s f = some k) (hlt : Nat.blt d nt = true) (hK : K (put t d (.pointer (some ⟨i, o + k, none⟩))) m) : Step P nt ops ⟨some d, .fieldAddr s x f, T, p, af, none⟩ t m K := by
  refine .q rfl rfl hlt (by simp [Op.operands, hx]) ?_ hK
  unfold foB at hf
  simp only [aquiet, evD_of hx, afield]
  split at hf
  · rename_i fs hu
    rw [hu]
    simp only
    split at hf
    · rename_i fd hfd
      first | (rw [hfd]; simp only) | simp only | skip
      split at hf
      · rename_i q hq
        first | rw [hq] | skip
        injection hf with hf
        simp [hf]
      · cases hf
    · cases hf
  · cases hf
/-- The first field: it lies where the struct lies. -/
theorem Step.field0 {x : Operand} {s f i o : Nat} (hx : evo t x = some (.pointer (some ⟨i, o, none⟩))) (hf : foB P s f = some 0) (hlt : Nat.blt d nt = true) (hK : K (put t d (.pointer (some ⟨i, o, none⟩))) m) : Step P nt ops ⟨some d, .fieldAddr s x f, T, p, af, none⟩ t m K :=
  .field hx hf hlt hK
theorem Step.ix {x y : Operand} {s a o n k X : Nat} {kk : IntKind} {v : Value} (hx : evo t x = some v) (hs : Sl v a o n) (hy : evo t y = some (.int kk ((k : Nat) : Int))) (he : elB P X = some s) (hlt : Nat.blt d nt = true) (hk : k < n) (hK : K (put t d (.pointer (some ⟨a, o + k * s, none⟩))) m) : Step P nt ops ⟨some d, .indexAddr X x y, T, p, af, none⟩ t m K := by
  refine .q rfl rfl hlt (by simp [Op.operands, hx, hy]) ?_ hK
  rcases hs with ⟨_, hn⟩ | ⟨c, hc, rfl⟩ | ⟨hn, _⟩
  · omega
  · unfold elB at he
    split at he
    · rename_i e hu
      simp only [aquiet, evD_of hx, evD_of hy, aindex, hu, he]
      rw [if_pos (by omega)]
      simp
    · cases he
  · omega
theorem Step.ix1 {x y : Operand} {a o n k X : Nat} {kk : IntKind} {v : Value} (hx : evo t x = some v) (hs : Sl v a o n) (hy : evo t y = some (.int kk ((k : Nat) : Int))) (he : elB P X = some 1) (hlt : Nat.blt d nt = true) (hk : k < n) (hK : K (put t d (.pointer (some ⟨a, o + k, none⟩))) m) : Step P nt ops ⟨some d, .indexAddr X x y, T, p, af, none⟩ t m K :=
  .ix hx hs hy he hlt hk (by simpa using hK)
/-- An element of an array behind a pointer. -/
theorem Step.ixA {x y : Operand} {s i o n k X : Nat} {kk : IntKind} (hx : evo t x = some (.pointer (some ⟨i, o, none⟩))) (hy : evo t y = some (.int kk ((k : Nat) : Int))) (he : arB P X = some (n, s)) (hlt : Nat.blt d nt = true) (hk : k < n) (hK : K (put t d (.pointer (some ⟨i, o + k * s, none⟩))) m) : Step P nt ops ⟨some d, .indexAddr X x y, T, p, af, none⟩ t m K := by
  refine .q rfl rfl hlt (by simp [Op.operands, hx, hy]) ?_ hK
  unfold arB at he
  split at he
  · rename_i n' e hu
    cases hz : szB P e with
    | none => simp [hz] at he
    | some s' =>
      simp only [hz, Option.map_some, Option.some.injEq, Prod.mk.injEq] at he
      obtain ⟨rfl, rfl⟩ := he
      simp only [aquiet, evD_of hx, evD_of hy, aindex, hu, hz]
      rw [if_pos (by omega)]
      simp
  · cases he
theorem Step.extract {x : Operand} {vs : Array Value} {i : Nat} {v : Value} (hx : evo t x = some (.tuple vs)) (hi : vs.toList[i]? = some v) (hlt : Nat.blt d nt = true) (hK : K (put t d v) m) : Step P nt ops ⟨some d, .extract x i, T, p, af, none⟩ t m K := by
  have hi' : vs[i]? = some v := by simpa using hi
  exact .q rfl rfl hlt (by simp [Op.operands, hx]) (by simp [aquiet, evD_of hx, hi']) hK
theorem Step.nilp {x : Operand} {i o : Nat} (hx : evo t x = some (.pointer (some ⟨i, o, none⟩))) (hlt : Nat.blt d nt = true) (hK : K (put t d (.pointer (some ⟨i, o, none⟩))) m) : Step P nt ops ⟨some d, .nilCheck x, T, p, af, none⟩ t m K :=
  .q rfl rfl hlt (by simp [Op.operands, hx]) (by simp [aquiet, evD_of hx, anilCheck]) hK
def evL (t : Fm) : List Operand → Option (List Value)
  | [] => some []
  | x :: l => match evo t x, evL t l with
    | some v, some k => some (v :: k)
    | _, _ => none
theorem evL_of {t : Fm} : ∀ {l : List Operand} {vs : List Value}, evL t l = some vs → (∀ x ∈ l, ∃ v, evo t x = some v) ∧ l.map (evD t) = vs
  | [], vs, h => by simp [evL] at h; subst h; simp
  | x :: l, vs, h => by
    simp only [evL] at h
    split at h
    · rename_i v k h1 h2
      injection h with h; subst h
      obtain ⟨k1, k2⟩ := evL_of h2
      exact ⟨fun y hy => by
        rcases List.mem_cons.1 hy with rfl | hy
        · exact ⟨v, h1⟩
        · exact k1 y hy, by simp [evD_of h1, k2]⟩
    · cases h
theorem Step.fn {fn : Fn} {f c : Array Operand} {vf vc : List Value} (hf : evL t f.toList = some vf) (hc : evL t c.toList = some vc) (hlt : Nat.blt d nt = true) (hK : K (put t d (.func fn vf.toArray vc.toArray)) m) : Step P nt ops ⟨some d, .makeFunc fn f c, T, p, af, none⟩ t m K := by
  obtain ⟨f1, f2⟩ := evL_of hf
  obtain ⟨c1, c2⟩ := evL_of hc
  refine .q rfl rfl hlt (fun x hx => ?_) ?_ hK
  · simp only [Op.operands, Array.toList_append, List.mem_append] at hx
    exact hx.elim (f1 x) (c1 x)
  · simp only [aquiet, Option.some.injEq, Value.func.injEq, true_and]
    refine ⟨?_, ?_⟩
    · rw [← f2]; apply Array.ext'; simp
    · rw [← c2]; apply Array.ext'; simp
theorem Step.bin {op : BinOp} {X Y : TypeId} {x y : Operand} {u w v : Value} (hx : evo t x = some u) (hy : evo t y = some w) (hv : aint op u w = some v) (hlt : Nat.blt d nt = true) (hK : K (put t d v) m) : Step P nt ops ⟨some d, .binOp op X x y Y, T, p, af, none⟩ t m K :=
  .q rfl rfl hlt (by simp [Op.operands, hx, hy]) (by simp [aquiet, evD_of hx, evD_of hy, hv]) hK
section ints
variable {X Y : TypeId} {x y : Operand} {a b : Int} {k : IntKind}
theorem Step.add (hx : evo t x = some (.int .i64 a)) (hy : evo t y = some (.int .i64 b)) (hr : -9223372036854775808 ≤ a + b ∧ a + b ≤ 9223372036854775807) (hlt : Nat.blt d nt = true) (hK : K (put t d (.int .i64 (a + b))) m) : Step P nt ops ⟨some d, .binOp .add X x y Y, T, p, af, none⟩ t m K :=
  .bin hx hy (by simp [aint, IntWalk.i64_in _ hr]) hlt hK
theorem Step.sub (hx : evo t x = some (.int .i64 a)) (hy : evo t y = some (.int .i64 b)) (hr : -9223372036854775808 ≤ a - b ∧ a - b ≤ 9223372036854775807) (hlt : Nat.blt d nt = true) (hK : K (put t d (.int .i64 (a - b))) m) : Step P nt ops ⟨some d, .binOp .sub X x y Y, T, p, af, none⟩ t m K :=
  .bin hx hy (by simp [aint, IntWalk.i64_in _ hr]) hlt hK
theorem Step.mul (hx : evo t x = some (.int .i64 a)) (hy : evo t y = some (.int .i64 b)) (hr : -9223372036854775808 ≤ a * b ∧ a * b ≤ 9223372036854775807) (hlt : Nat.blt d nt = true) (hK : K (put t d (.int .i64 (a * b))) m) : Step P nt ops ⟨some d, .binOp .mul X x y Y, T, p, af, none⟩ t m K :=
  .bin hx hy (by simp [aint, IntWalk.i64_in _ hr]) hlt hK
theorem Step.lss (hx : evo t x = some (.int k a)) (hy : evo t y = some (.int k b)) (hlt : Nat.blt d nt = true) (hK : K (put t d (.bool (decide (a < b)))) m) : Step P nt ops ⟨some d, .binOp .lss X x y Y, T, p, af, none⟩ t m K :=
  .bin hx hy (by simp [aint]) hlt hK
theorem Step.leq (hx : evo t x = some (.int k a)) (hy : evo t y = some (.int k b)) (hlt : Nat.blt d nt = true) (hK : K (put t d (.bool (decide (a ≤ b)))) m) : Step P nt ops ⟨some d, .binOp .leq X x y Y, T, p, af, none⟩ t m K :=
  .bin hx hy (by simp [aint]) hlt hK
theorem Step.gtr (hx : evo t x = some (.int k a)) (hy : evo t y = some (.int k b)) (hlt : Nat.blt d nt = true) (hK : K (put t d (.bool (decide (b < a)))) m) : Step P nt ops ⟨some d, .binOp .gtr X x y Y, T, p, af, none⟩ t m K :=
  .bin hx hy (by simp [aint]) hlt hK
theorem Step.geq (hx : evo t x = some (.int k a)) (hy : evo t y = some (.int k b)) (hlt : Nat.blt d nt = true) (hK : K (put t d (.bool (decide (b ≤ a)))) m) : Step P nt ops ⟨some d, .binOp .geq X x y Y, T, p, af, none⟩ t m K :=
  .bin hx hy (by simp [aint]) hlt hK
theorem Step.eql (hx : evo t x = some (.int k a)) (hy : evo t y = some (.int k b)) (hlt : Nat.blt d nt = true) (hK : K (put t d (.bool (decide (a = b)))) m) : Step P nt ops ⟨some d, .binOp .eql X x y Y, T, p, af, none⟩ t m K :=
  .bin hx hy (by simp [aint]) hlt hK
theorem Step.neq (hx : evo t x = some (.int k a)) (hy : evo t y = some (.int k b)) (hlt : Nat.blt d nt = true) (hK : K (put t d (.bool (!decide (a = b)))) m) : Step P nt ops ⟨some d, .binOp .neq X x y Y, T, p, af, none⟩ t m K :=
  .bin hx hy (by simp [aint]) hlt hK
/-- An operation on numbers, bools and the like, by the model's own reckoning. -/
theorem Step.ground {o : Oper} {v : Value} (hd : o.dst = some d) (hg : o.guard = none) (hlt : Nat.blt d nt = true) (hk : ∀ x ∈ o.op.operands.toList, ∃ v, evo t x = some v ∧ g1 v = true) (hq : aground P o (evD t) = some v → aquiet P o (evD t) m = some v)
    (hst : Sim.still P (execOp (evD t) o) = some (.value v)) (hv : g1 v = true) (hK : K (put t d v) m) : Step P nt ops o t m K := by
  refine .q hd hg hlt (fun x hx => by obtain ⟨u, h, _⟩ := hk x hx; exact ⟨u, h⟩) (hq ?_) hK
  unfold aground
  rw [if_pos ?_]
  · simp [hst, hv]
  · rw [Array.all_eq_true_iff_forall_mem]
    intro x hx
    obtain ⟨u, h, h'⟩ := hk x (by simpa using hx)
    simpa [evD_of h] using h'
theorem Step.quo (hx : evo t x = some (.int .i64 a)) (hy : evo t y = some (.int .i64 b)) (ha : 0 ≤ a ∧ a ≤ 9223372036854775807) (hb : 1 ≤ b) (hlt : Nat.blt d nt = true) (hK : K (put t d (.int .i64 (a / b))) m) : Step P nt ops ⟨some d, .binOp .quo X x y Y, T, p, af, none⟩ t m K := by
  have hq : IntKind.i64.wrap (a.tdiv b) = a / b := by
    rw [Int.tdiv_eq_ediv_of_nonneg ha.1]
    have h1 : a / b ≤ a := Int.ediv_le_self _ ha.1
    have h2 : 0 ≤ a / b := Int.ediv_nonneg ha.1 (by omega)
    exact IntWalk.i64_in _ (by omega)
  refine .ground rfl rfl hlt (by simp [Op.operands, hx, hy, g1, g0]) (fun h => by simp only [aquiet, evD_of hx, evD_of hy, aint, anil]; simpa [evD_of hx, evD_of hy] using h) ?_ (by simp [g1, g0]) hK
  simp [execOp, eqGuard, binOp, evD_of hx, evD_of hy, Op.intDiv, show ¬ b = 0 by omega, hq, bind, Sem.bind, pure, Sim.still]
end ints
theorem Step.not {x : Operand} {X : TypeId} {q : Bool} (hx : evo t x = some (.bool q)) (hlt : Nat.blt d nt = true) (hK : K (put t d (.bool !q)) m) : Step P nt ops ⟨some d, .unOp .not X x, T, p, af, none⟩ t m K :=
  .ground rfl rfl hlt (by simp [Op.operands, hx, g1, g0]) (fun h => by simpa [aquiet] using h) (by simp [execOp, Op.unary, evD_of hx, bind, Sem.bind, pure, Sim.still]) (by simp [g1, g0]) hK
theorem Step.neg {x : Operand} {X : TypeId} {a : Int} (hx : evo t x = some (.int .i64 a)) (hr : -9223372036854775807 ≤ a ∧ a ≤ 9223372036854775807) (hlt : Nat.blt d nt = true) (hK : K (put t d (.int .i64 (-a))) m) : Step P nt ops ⟨some d, .unOp .neg X x, T, p, af, none⟩ t m K :=
  .ground rfl rfl hlt (by simp [Op.operands, hx, g1, g0]) (fun h => by simpa [aquiet] using h) (by simp [execOp, Op.unary, Op.intArith, evD_of hx, bind, Sem.bind, pure, Sim.still, IntWalk.i64_in (-a) (by omega)]) (by simp [g1, g0]) hK
theorem Step.len {x : Operand} {X a o n : Nat} {v : Value} (hx : evo t x = some v) (hs : Sl v a o n) (hX : slB P X = true) (hlt : Nat.blt d nt = true) (hK : K (put t d (.int .i64 ((n : Nat) : Int))) m) :
    Step P nt ops ⟨some d, .call ⟨.builtin .len, #[x], #[X]⟩, T, p, af, none⟩ t m K := by
  refine .q rfl rfl hlt (by simp [Op.operands, Call.operands, hx]) ?_ hK
  unfold slB at hX
  split at hX
  · rename_i e hu
    rcases hs with ⟨rfl, rfl⟩ | ⟨c, hc, rfl⟩ | ⟨rfl, o', k', rfl⟩ <;> simp [aquiet, evD_of hx, alen, hu, aSliceLen]
  · cases hX
theorem Step.max {x y : Operand} {X Y : TypeId} {a b : Int} {k : IntKind} (hx : evo t x = some (.int k a)) (hy : evo t y = some (.int k b)) (hlt : Nat.blt d nt = true) (hK : K (put t d (.int k (max a b))) m) :
    Step P nt ops ⟨some d, .call ⟨.builtin .max, #[x, y], #[X, Y]⟩, T, p, af, none⟩ t m K := by
  refine .ground rfl rfl hlt (by simp [Op.operands, Call.operands, hx, hy, g1, g0]) (fun h => by simpa [aquiet] using h) ?_ (by simp [g1, g0]) hK
  have : (if b > a then b else a) = Max.max a b := by rw [Int.max_def]; split <;> split <;> omega
  simp [execOp, resolve, invoke, builtin, Builtin.max_, Builtin.max2, evD_of hx, evD_of hy, this, bind, Sem.bind, pure, Sim.still]
theorem Step.min {x y : Operand} {X Y : TypeId} {a b : Int} {k : IntKind} (hx : evo t x = some (.int k a)) (hy : evo t y = some (.int k b)) (hlt : Nat.blt d nt = true) (hK : K (put t d (.int k (min a b))) m) :
    Step P nt ops ⟨some d, .call ⟨.builtin .min, #[x, y], #[X, Y]⟩, T, p, af, none⟩ t m K := by
  refine .ground rfl rfl hlt (by simp [Op.operands, Call.operands, hx, hy, g1, g0]) (fun h => by simpa [aquiet] using h) ?_ (by simp [g1, g0]) hK
  have : (if b < a then b else a) = Min.min a b := by rw [Int.min_def]; split <;> split <;> omega
  simp [execOp, resolve, invoke, builtin, Builtin.min_, Builtin.min2, evD_of hx, evD_of hy, this, bind, Sem.bind, pure, Sim.still]
end
end Go.Proofs.Ytajpngnphbdnnaa.Abs
namespace Go.Proofs.Ytajpngnphbdnnaa.Abs
set_option linter.unusedSimpArgs false
set_option linter.unusedVariables false
open Go.RowKit
open Go.Proofs.Ytajpngnphbdnnaa.Sim
theorem set_app {α : Type} (M L : List α) (k : Nat) (x : α) : (M ++ L).set (M.length + k) x = M ++ L.set k x := by
  rw [List.set_append_right _ _ (by omega)]; congr 1; rw [Nat.add_sub_cancel_left]
theorem get_app {α : Type} (M L : List α) (k : Nat) : (M ++ L)[M.length + k]? = L[k]? := by
  rw [List.getElem?_append_right (by omega)]; congr 1; omega
theorem get_old {α : Type} {M : List α} (L : List α) {a : Nat} {x : α} (h : M[a]? = some x) : (M ++ L)[a]? = some x := by
  rw [List.getElem?_append_left (List.getElem?_eq_some_iff.1 h).1]; exact h
theorem Rd.old {M : AM} (L : AM) {a o : Nat} {v : Value} (h : Rd M a o v) : Rd (M ++ L) a o v := by
  obtain ⟨b, h1, h2⟩ := h
  exact ⟨b, get_old L h1, h2⟩
theorem Rd.new {M L : AM} {k o : Nat} {b : Blk} {v : Value} (h : L[k]? = some (some b)) (hv : b.cells[o]? = some v) : Rd (M ++ L) (M.length + k) o v :=
  ⟨b, by rw [get_app]; exact h, hv⟩
section
variable {P : Program} {nt : Nat} {ops : Array Oper} {t : Fm} {m : AM} {K : Fm → AM → Prop} {d T : Nat} {p : String} {af : Array Edge}
theorem loudN {o : Oper} {ev : Operand → Value} {K : Value → AM → Prop} {v : Value} {M L L' : AM} {k : Nat} (hk : L.length = k) (hn : needsNew o.op = true) (h : aloud P o ev ((M ++ L) ++ [none]) (M.length + k) = some (v, M ++ L')) (hK : K v (M ++ L')) : Loud P o ev (M ++ L) K :=
  loud_of_aloud hn (by rw [List.length_append, hk]; exact h) hK
theorem set_new_at {α : Type} (M L : List α) {k : Nat} (hk : L.length = k) (x y : α) : ((M ++ L) ++ [y]).set (M.length + k) x = M ++ (L ++ [x]) := by
  rw [List.append_assoc, set_app, List.set_append_right _ _ (by omega)]
  simp [hk]
/-- A new variable. -/
theorem Step.alloc {ty : TypeId} {z : Array Value} {M L L' : AM} (k : Nat) (hk : L.length = k) (hz : zeroB P ty = some z) (hlt : Nat.blt d nt = true) (hL : L ++ [some { cells := z.toList }] = L') (hK : K (put t d (.pointer (some ⟨M.length + k, 0, none⟩))) (M ++ L')) :
    Step P nt ops ⟨some d, .alloc ty, T, p, af, none⟩ t (M ++ L) K := by
  subst hL
  refine .l rfl rfl hlt rfl (by simp [Op.operands]) (loudN hk rfl (v := .pointer (some ⟨M.length + k, 0, none⟩)) ?_ hK)
  simp [aloud, hz, set_new_at M L hk, -List.append_assoc]
/-- A new variable with a value. -/
theorem Step.box {x : Operand} {ty : TypeId} {v : Value} {M L L' : AM} (k : Nat) (hk : L.length = k) (hx : evo t x = some v) (h1 : v.cells.all (·.oneCell') = true) (hlt : Nat.blt d nt = true) (hL : L ++ [some { cells := v.cells.toList }] = L') (hK : K (put t d (.pointer (some ⟨M.length + k, 0, none⟩))) (M ++ L')) :
    Step P nt ops ⟨some d, .box ty x, T, p, af, none⟩ t (M ++ L) K := by
  subst hL
  refine .l rfl rfl hlt rfl (by simp [Op.operands, hx]) (loudN hk rfl (v := .pointer (some ⟨M.length + k, 0, none⟩)) ?_ hK)
  simp only [aloud, evD_of hx]
  rw [if_pos h1, set_new_at M L hk]
theorem Step.make {x y : Operand} {X : TypeId} {n : Nat} {kx ky : IntKind} {e : TypeId} {s by_ : Nat} {z : Array Value} {M L L' : AM} (k : Nat) (hk : L.length = k) (hx : evo t x = some (.int kx ((n : Nat) : Int))) (hy : evo t y = some (.int ky ((n : Nat) : Int))) (he : elemB P X = some (e, s, by_, z)) (hb : by_ * n ≤ 281474976710656 ∧ n ≤ 9223372036854775807 ∧ s ≠ 0)
    (hlt : Nat.blt d nt = true) (hL : L ++ [some { cells := (madeCells z (n * s)).toList }] = L') (hK : K (put t d (.slice (some ⟨M.length + k, 0, none⟩) n n)) (M ++ L')) :
    Step P nt ops ⟨some d, .makeSlice X x y, T, p, af, none⟩ t (M ++ L) K := by
  subst hL
  refine .l rfl rfl hlt rfl (by simp [Op.operands, hx, hy]) (loudN hk rfl (v := .slice (some ⟨M.length + k, 0, none⟩) n n) ?_ hK)
  obtain ⟨b1, b2, b3⟩ := hb
  simp only [aloud, evD_of hx, evD_of hy, amake, he]
  rw [if_pos ⟨by omega, by omega, by omega, by omega, b3⟩, set_new_at M L hk]
  simp
theorem madeCells_one (v : Value) (n : Nat) : (madeCells #[v] (n * 1)).toList = List.replicate n v := by
  apply List.ext_getElem?
  intro i
  simp only [madeCells, Array.toList_map, Nat.mul_one, List.getElem?_map, List.getElem?_replicate, Array.getElem?_toList]
  by_cases h : i < n
  · simp [h, Nat.mod_one]
  · simp [h]
/-- make of a slice of one-cell elements. -/
theorem Step.make1 {x y : Operand} {X : TypeId} {n : Nat} {kx ky : IntKind} {e : TypeId} {by_ : Nat} {z : Value} {M L L' : AM} (k : Nat) (hk : L.length = k) (hx : evo t x = some (.int kx ((n : Nat) : Int))) (hy : evo t y = some (.int ky ((n : Nat) : Int))) (he : elemB P X = some (e, 1, by_, #[z])) (hb : by_ * n ≤ 281474976710656 ∧ n ≤ 9223372036854775807)
    (hlt : Nat.blt d nt = true) (hL : L ++ [some { cells := List.replicate n z }] = L') (hK : K (put t d (.slice (some ⟨M.length + k, 0, none⟩) n n)) (M ++ L')) :
    Step P nt ops ⟨some d, .makeSlice X x y, T, p, af, none⟩ t (M ++ L) K :=
  .make k hk hx hy he ⟨hb.1, hb.2, by omega⟩ hlt (by rw [madeCells_one]; exact hL) hK
/-- A store into a block of one's own: one cell. -/
theorem Step.store {x y : Operand} {ty : TypeId} {k o : Nat} {v : Value} {b : Blk} {M L L' : AM} (hx : evo t x = some (.pointer (some ⟨M.length + k, o, none⟩))) (hy : evo t y = some v) (hb : L[k]? = some (some b)) (hs : b.kind.solid = true) (hz : szB P ty = some 1) (hc : v.cells = #[v]) (h1 : v.oneCell' = true) (ho : o < b.cells.length)
    (hL : L.set k (some { b with cells := b.cells.set o v }) = L') (hK : K t (M ++ L')) : Step P nt ops ⟨none, .store ty x y, T, p, af, none⟩ t (M ++ L) K := by
  subst hL
  refine .l0 rfl rfl rfl (by simp [Op.operands, hx, hy]) (loud_of_aloud0 (v := undef) (m' := M ++ L.set k (some { b with cells := b.cells.set o v })) rfl ?_ hK)
  have hsp : splice b.cells o [v] = b.cells.set o v := by
    unfold splice
    rw [List.set_eq_take_append_cons_drop]
    simp [ho]
  simp only [aloud, evD_of hx, evD_of hy, astore, get_app, hb, hz, hc]
  rw [if_pos (by simp [hs, h1]; omega)]
  simp [set_app, hsp]
/-- A store of a struct's cells. -/
theorem Step.stores {x y : Operand} {ty : TypeId} {k o n : Nat} {v : Value} {b : Blk} {M L L' : AM} (hx : evo t x = some (.pointer (some ⟨M.length + k, o, none⟩))) (hy : evo t y = some v) (hb : L[k]? = some (some b)) (hs : b.kind.solid = true) (hz : szB P ty = some n) (hc : v.cells.size = n) (h1 : v.cells.all (·.oneCell') = true) (ho : o + n ≤ b.cells.length)
    (hL : L.set k (some { b with cells := splice b.cells o v.cells.toList }) = L') (hK : K t (M ++ L')) : Step P nt ops ⟨none, .store ty x y, T, p, af, none⟩ t (M ++ L) K := by
  subst hL
  refine .l0 rfl rfl rfl (by simp [Op.operands, hx, hy]) (loud_of_aloud0 (v := undef) (m' := M ++ L.set k (some { b with cells := splice b.cells o v.cells.toList })) rfl ?_ hK)
  simp only [aloud, evD_of hx, evD_of hy, astore, get_app, hb, hz]
  rw [if_pos (by rw [h1]; simp [hs, hc]; omega)]
  simp [set_app]
/-- A call of a function of the program. -/
theorem Step.call {x : Operand} {args : Array Operand} {tys : Array TypeId} {g : FuncId} {f c : Array Value} {vs : List Value} {fn : Func} {b : Code} {m : AM} {Q : Value → AM → Prop} (hP : Fit P) (hx : evo t x = some (.func (.func g) f c)) (ha : evL t args.toList = some vs) (hf : P.funcs[g]? = some fn) (hb : fn.body = some b)
    (hlt : Nat.blt d nt = true) (h : ACall P g (f ++ vs.toArray ++ c) m Q) (hK : ∀ v m', Q v m' → K (put t d v) m') : Step P nt ops ⟨some d, .call ⟨.value x, args, tys⟩, T, p, af, none⟩ t m K := by
  obtain ⟨a1, a2⟩ := evL_of ha
  refine .l rfl rfl hlt rfl (fun y hy => ?_) (loud_call hP (g := g) (first := f) (captured := c) rfl rfl (evD_of hx) hf hb ?_)
  · simp only [Op.operands, Call.operands, Array.toList_append, List.mem_append] at hy
    rcases hy with hy | hy
    · simp at hy; subst hy; exact ⟨_, hx⟩
    · exact a1 y hy
  · have e : (args.map (evD t)) = vs.toArray := by rw [← a2]; apply Array.ext'; simp
    rw [e]
    exact h.mono hK
/-- A call of a function that is known by its name. -/
theorem Step.callF {args : Array Operand} {tys : Array TypeId} {g : FuncId} {vs : List Value} {fn : Func} {b : Code} {m : AM} {Q : Value → AM → Prop} (hP : Fit P) (ha : evL t args.toList = some vs) (hf : P.funcs[g]? = some fn) (hb : fn.body = some b)
    (hlt : Nat.blt d nt = true) (h : ACall P g vs.toArray m Q) (hK : ∀ v m', Q v m' → K (put t d v) m') : Step P nt ops ⟨some d, .call ⟨.value (.func g), args, tys⟩, T, p, af, none⟩ t m K :=
  .call hP rfl ha hf hb hlt (by simpa using h) hK
end
end Go.Proofs.Ytajpngnphbdnnaa.Abs
namespace Go.Proofs.Ytajpngnphbdnnaa.Abs
set_option linter.unusedSimpArgs false
set_option linter.unusedVariables false
open Go.RowKit
open Go.Proofs.Ytajpngnphbdnnaa.Sim
section
variable {P : Program} {nt id : Nat} {m m0 : AM} {t : Fm} {Q : AEx → Fm → AM → Prop} {K : Fm → AM → Prop}
theorem Then.n (h : K t m) : Then K Q .normal t m := h
theorem Then.e {i : Nat} (h : Q (.exit i) t m) : Then K Q (.exit i) t m := h
theorem Then.r (h : Q .ret t m) : Then K Q .ret t m := h
theorem InBlk.n (h : Q .normal t m) : InBlk id Q .normal t m := h
theorem InBlk.r (h : Q .ret t m) : InBlk id Q .ret t m := h
theorem InBlk.hit (h : Q .normal t m) : InBlk id Q (.exit id) t m := by simp only [InBlk, if_true]; exact h
theorem InBlk.miss {i : Nat} (hne : Nat.beq i id = false) (h : Q (.exit i) t m) : InBlk id Q (.exit i) t m := by
  have : i ≠ id := fun e => by rw [e] at hne; simp at hne
  simp only [InBlk, if_neg this]; exact h
theorem AW.condT {c : Operand} {a b : Code} {q : Bool} (hc : evo t c = some (.bool q)) (hq : q = true) (h : AW P nt m0 a t m Q) : AW P nt m0 (.cond c a b) t m Q := .cond hc (fun _ => h) (fun e => by rw [hq] at e; cases e)
theorem AW.condF {c : Operand} {a b : Code} {q : Bool} (hc : evo t c = some (.bool q)) (hq : q = false) (h : AW P nt m0 b t m Q) : AW P nt m0 (.cond c a b) t m Q := .cond hc (fun e => by rw [hq] at e; cases e) (fun _ => h)
def All (p : Nat → Value → Prop) : List (Nat × Value) → Prop
  | [] => True
  | (d, v) :: l => p d v ∧ All p l
theorem fr_all {p : Nat → Value → Prop} : ∀ {l : List (Nat × Value)}, All p l → ∀ i v, fr l i = some v → p i v
  | [], _, i, v, h => by simp [fr] at h
  | (d, x) :: l, ⟨h1, h2⟩, i, v, h => by
    by_cases e : i = d
    · subst e
      simp only [fr, put_same, Option.some.injEq] at h
      subst h; exact h1
    · simp only [fr, put_ne _ _ e] at h
      exact fr_all h2 i v h
theorem AW.weak {c : Code} {t1 : Fm} (hs : ∀ i v, t1 i = some v → t i = some v) (h : AW P nt m0 c t1 m Q) : AW P nt m0 c t m Q :=
  fun base R0 w0 R a w hb h0 hp ht => h base R0 w0 R a w hb h0 hp (ht.weak hs)
/-- A loop, the memory's names kept. -/
theorem AW.loopW {c : Code} (I : Nat → Fm → AM → Prop) (h0 : ∃ k l, All (fun i v => t i = some v) l ∧ I k (fr l) m)
    (round : ∀ k t m, I k t m → AW P nt m0 c t m (Then (fun t' m' => ∃ k' l, k' < k ∧ All (fun i v => t' i = some v) l ∧ I k' (fr l) m') Q)) : AW P nt m0 (.loop c) t m Q := by
  obtain ⟨k, l, h1, h2⟩ := h0
  refine .weak (fr_all h1) ?_
  intro base R0 w0 R ac w hb hm0 hp ht
  let J : Nat → Act → World → Prop := fun k a w => ∃ t m R, I k t m ∧ Post base m0 m R0 R w0 w ∧ FR R nt t a.tmps ∧ a.defers = ac.defers
  have hJ0 : ∃ k, J k ac w := ⟨k, fr l, m, R, h2, hp, ht, rfl⟩
  open Classical in
  let μ : Act → World → Nat := fun a w => if h : ∃ k, J k a w then Classical.choose (least _ h) else 0
  have hμ : ∀ a w (h : ∃ k, J k a w), J (μ a w) a w ∧ ∀ k, J k a w → μ a w ≤ k := fun a w h => by
    have hs := Classical.choose_spec (least _ h)
    have e : μ a w = Classical.choose (least _ h) := dif_pos h
    rw [e]
    exact ⟨hs.1, fun k hk => Nat.le_of_not_lt fun hlt => hs.2 k hlt hk⟩
  refine wp_loop (fun a w => ∃ k, J k a w) μ hJ0 fun a w hJ => ?_
  obtain ⟨⟨t2, m2, R2, q1, q2, q3, q4⟩, _⟩ := hμ a w hJ
  refine wp_mono (round _ _ _ q1 base R0 w0 R2 a w hb hm0 q2 q3) ?_
  rintro ex a' w' ⟨e, t', m', R', rfl, h2, h3, h4, h5⟩
  cases e with
  | normal =>
    obtain ⟨k', l', r1, r2, r3⟩ := h5
    have hJ' : J k' a' w' := ⟨fr l', m', R', r3, h3, h4.weak (fr_all r2), h2.trans q4⟩
    exact ⟨⟨k', hJ'⟩, Nat.lt_of_le_of_lt ((hμ a' w' ⟨k', hJ'⟩).2 k' hJ') r1⟩
  | exit i => exact ⟨.exit i, t', m', R', rfl, h2.trans q4, h3, h4, h5⟩
  | ret => exact ⟨.ret, t', m', R', rfl, h2.trans q4, h3, h4, h5⟩
def rid : Nat → Nat := fun i => i
theorem Ren.of_sl {N : Nat} {v : Value} {a o n : Nat} (h : Sl v a o n) (ha : a < N) : Ren rid N v v := by
  rcases h with ⟨rfl, _⟩ | ⟨c, _, rfl⟩ | ⟨_, o', k, rfl⟩
  · exact .sliceNil
  · exact .slice a o n c ha
  · exact .sliceSpot a o' k ha
theorem Ren.of_g0 {N : Nat} {ρ : Nat → Nat} {v : Value} (h : g0 v = true) : Ren ρ N v v := .of_rel (N := 0) (R := fun _ => none) (x := v) (g0_rel h) (fun _ _ => rfl) (Nat.zero_le _) (fun i hi => absurd hi (by omega))
/-- All that the call made is let go. -/
theorem Gc.drop {M L : AM} {l : List (Nat × Value)} (h : All (fun i v => t i = some v ∧ Ren rid M.length v v) l) : Gc M t (M ++ L) (fr l) M :=
  ⟨rid, Nat.le_refl _, fun _ _ => rfl, fun _ _ _ _ _ _ e => e, fun j b hj => .inl ⟨(List.getElem?_eq_some_iff.1 hj).1, get_old L hj, hj⟩, fun i v hi => by
    obtain ⟨h1, h2⟩ := fr_all h i v hi
    exact ⟨v, h1, h2⟩⟩
/-- Of the call's own blocks the first ones are kept. -/
theorem Gc.trim {M L L1 L2 : AM} {l : List (Nat × Value)} (hL : L = L1 ++ L2) (hc : ∀ b, some b ∈ L1 → ∀ v ∈ b.cells, Ren rid (M.length + L1.length) v v) (h : All (fun i v => t i = some v ∧ Ren rid (M.length + L1.length) v v) l) : Gc M t (M ++ L) (fr l) (M ++ L1) := by
  subst hL
  refine ⟨rid, by simp, fun _ _ => rfl, fun _ _ _ _ _ _ e => e, fun j b hj => ?_, fun i v hi => by
    obtain ⟨h1, h2⟩ := fr_all h i v hi
    exact ⟨v, h1, by simpa using h2⟩⟩
  rcases Nat.lt_or_ge j M.length with hlt | hge
  · rw [List.getElem?_append_left hlt] at hj
    exact .inl ⟨hlt, get_old _ hj, hj⟩
  · have hj' := hj
    rw [List.getElem?_append_right hge] at hj
    have hjl := (List.getElem?_eq_some_iff.1 hj).1
    refine .inr ⟨b, ?_, rfl, rfl, rfl, fun k v hk => ⟨v, hk, ?_⟩⟩
    · show (M ++ (L1 ++ L2))[j]? = _
      rw [List.getElem?_append_right hge, List.getElem?_append_left hjl]; exact hj
    · have := hc b (List.mem_of_getElem? hj) v (List.mem_of_getElem? hk)
      simpa using this
end
section
variable {P : Program} {nt : Nat} {ops : Array Oper} {t : Fm} {m : AM} {K : Fm → AM → Prop} {T : Nat} {p : String} {af : Array Edge}
theorem Step.id {o : Oper} (h : Step P nt ops o t m K) : Step P nt ops o t m K := h
def dOk (d : Option Tmp) (n : Nat) : Bool := match d with
  | some d => Nat.blt d n
  | none => true
theorem dOk_of {d : Option Tmp} (h : dOk d nt = true) : ∀ e, d = some e → e < nt := fun e he => by subst he; simpa [dOk] using h
theorem Step.gdT {o : Op} {dd : Option Tmp} {j : Nat} {b q : Bool} (hd : dOk dd nt = true) (hv : gval ops t j = some (.bool q)) (hq : q = b) (h1 : Step P nt ops ⟨dd, o, T, p, af, none⟩ t m K) : Step P nt ops ⟨dd, o, T, p, af, some (j, b)⟩ t m K :=
  .gd (dOk_of hd) hv (fun _ => h1) (fun h => by rw [hq] at h; cases b <;> cases h)
theorem Step.gdF {o : Op} {dd : Option Tmp} {j : Nat} {b q : Bool} (hd : dOk dd nt = true) (hv : gval ops t j = some (.bool q)) (hq : q = !b) (h1 : K (putO t dd undef) m) : Step P nt ops ⟨dd, o, T, p, af, some (j, b)⟩ t m K :=
  .gd (dOk_of hd) hv (fun h => by rw [hq] at h; cases b <;> cases h) (fun _ => h1)
theorem Step.pickT {d : Nat} {c x y : Operand} {q : Bool} {v u : Value} (hc : evo t c = some (.bool q)) (hx : evo t x = some v) (hy : evo t y = some u) (hlt : Nat.blt d nt = true) (hq : q = true) (h1 : K (put t d v) m) : Step P nt ops ⟨some d, .pick c x y, T, p, af, none⟩ t m K :=
  .pick hc hx hy hlt (fun _ => h1) (fun h => by rw [hq] at h; cases h)
theorem Step.pickF {d : Nat} {c x y : Operand} {q : Bool} {v u : Value} (hc : evo t c = some (.bool q)) (hx : evo t x = some v) (hy : evo t y = some u) (hlt : Nat.blt d nt = true) (hq : q = false) (h1 : K (put t d u) m) : Step P nt ops ⟨some d, .pick c x y, T, p, af, none⟩ t m K :=
  .pick hc hx hy hlt (fun h => by rw [hq] at h; cases h) (fun _ => h1)
end
theorem Sl.mk {a o n c : Nat} (h : n ≤ c) : Sl (.slice (some ⟨a, o, none⟩) n c) a o n := .inr (.inl ⟨c, h, rfl⟩)
theorem Sl.nil (a o : Nat) : Sl (.slice none 0 0) a o 0 := .inl ⟨rfl, rfl⟩
/-- A slice of ints that reads as l. -/
def Ints (m : AM) (v : Value) (l : List Int) : Prop := ∃ a o, Sl v a o l.length ∧ a < m.length ∧ ∀ k, k < l.length → Rd m a (o + k) (.int .i64 (l.getD k 0))
def Nats (m : AM) (v : Value) (l : List Nat) : Prop := ∃ a o, Sl v a o l.length ∧ a < m.length ∧ ∀ k, k < l.length → Rd m a (o + k) (.int .i64 ((l.getD k 0 : Nat) : Int))
theorem Ints.old {m : AM} {v : Value} {l : List Int} (L : AM) (h : Ints m v l) : Ints (m ++ L) v l := by
  obtain ⟨a, o, h1, h2, h3⟩ := h
  exact ⟨a, o, h1, by simp; omega, fun k hk => (h3 k hk).old L⟩
theorem Nats.old {m : AM} {v : Value} {l : List Nat} (L : AM) (h : Nats m v l) : Nats (m ++ L) v l := by
  obtain ⟨a, o, h1, h2, h3⟩ := h
  exact ⟨a, o, h1, by simp; omega, fun k hk => (h3 k hk).old L⟩
end Go.Proofs.Ytajpngnphbdnnaa.Abs
namespace Go.Proofs.Ytajpngnphbdnnaa.Abs
set_option linter.unusedSimpArgs false
set_option linter.unusedVariables false
open Go.RowKit
open Go.Proofs.Ytajpngnphbdnnaa.Sim
def RdL (m : AM) (i o : Nat) (c : List Value) : Prop := ∃ b, m[i]? = some (some b) ∧ ∀ (j : Nat) (v : Value), c[j]? = some v → b.cells[o + j]? = some v
theorem RdL.old {M : AM} (L : AM) {a o : Nat} {c : List Value} (h : RdL M a o c) : RdL (M ++ L) a o c := by
  obtain ⟨b, h1, h2⟩ := h
  exact ⟨b, get_old L h1, h2⟩
theorem RdL.at_ {m : AM} {a o : Nat} {c : List Value} (h : RdL m a o c) (j : Nat) {v : Value} (hj : c[j]? = some v) : Rd m a (o + j) v := by
  obtain ⟨b, h1, h2⟩ := h
  exact ⟨b, h1, h2 j v hj⟩
theorem RdL.new {M L : AM} {k : Nat} {b : Blk} {c : List Value} (h : L[k]? = some (some b)) (hb : b.cells = c) : RdL (M ++ L) (M.length + k) 0 c :=
  ⟨b, by rw [get_app]; exact h, fun j v hj => by rw [hb, Nat.zero_add]; exact hj⟩
theorem RdL.nil {m : AM} {i o : Nat} {b : Blk} (h : m[i]? = some (some b)) : RdL m i o [] := ⟨b, h, fun j v hj => by simp at hj⟩
theorem RdL.cons {m : AM} {i o : Nat} {v : Value} {c : List Value} (h : Rd m i o v) (hc : RdL m i (o + 1) c) : RdL m i o (v :: c) := by
  obtain ⟨b, h1, h2⟩ := h
  obtain ⟨b', k1, k2⟩ := hc
  rw [h1] at k1; injection k1 with k1; injection k1 with k1; subst k1
  refine ⟨b, h1, fun j x hj => ?_⟩
  cases j with
  | zero => simp at hj; subst hj; exact h2
  | succ j =>
    have := k2 j x (by simpa using hj)
    rwa [show o + (j + 1) = o + 1 + j by omega]
theorem RdL.one {m : AM} {i o : Nat} {v : Value} (h : Rd m i o v) : RdL m i o [v] := by
  obtain ⟨b, h1, h2⟩ := h
  exact ⟨b, h1, fun j x hj => by
    cases j with
    | zero => simp at hj; subst hj; exact h2
    | succ j => simp at hj⟩
section
variable {P : Program} {nt : Nat} {ops : Array Oper} {t : Fm} {m : AM} {K : Fm → AM → Prop} {d T : Nat} {p : String} {af : Array Edge}
/-- A whole struct is read. -/
theorem Step.loadL {x : Operand} {ty i o n : Nat} {c : List Value} (hx : evo t x = some (.pointer (some ⟨i, o, none⟩))) (hg : aggB P ty = some true) (hn : szB P ty = some n) (hlt : Nat.blt d nt = true) (h1 : RdL m i o c) (h3 : c.length = n) (hn1 : Nat.blt 0 n = true) (hK : K (put t d (.agg c.toArray)) m) :
    Step P nt ops ⟨some d, .load ty x, T, p, af, none⟩ t m K := by
  obtain ⟨b, k1, k2⟩ := h1
  simp at hn1
  have hlast := k2 (n - 1) c[n - 1] (List.getElem?_eq_getElem (by omega))
  have hlen := (List.getElem?_eq_some_iff.1 hlast).1
  refine .loads hx hg hn hlt k1 ?_ h3 hn1 hK
  apply List.ext_getElem?
  intro j
  by_cases hj : j < n
  · rw [List.getElem?_take, if_pos hj, List.getElem?_drop, k2 j c[j] (List.getElem?_eq_getElem (by omega)), List.getElem?_eq_getElem (by omega)]
  · rw [List.getElem?_take, if_neg hj, List.getElem?_eq_none (by omega)]
/-- A variable of one's own is set as a whole. -/
theorem Step.storeA {x y : Operand} {ty : TypeId} {k n : Nat} {v : Value} {b : Blk} {M L L' : AM} (hx : evo t x = some (.pointer (some ⟨M.length + k, 0, none⟩))) (hy : evo t y = some v) (hb : L[k]? = some (some b)) (hs : b.kind.solid = true) (hz : szB P ty = some n) (hc : v.cells.size = n) (h1 : v.cells.all (·.oneCell') = true) (ho : b.cells.length = n)
    (hL : L.set k (some { b with cells := v.cells.toList }) = L') (hK : K t (M ++ L')) : Step P nt ops ⟨none, .store ty x y, T, p, af, none⟩ t (M ++ L) K := by
  refine .stores hx hy hb hs hz hc h1 (by omega) ?_ hK
  rw [← hL]
  have : splice b.cells 0 v.cells.toList = v.cells.toList := by
    unfold splice
    rw [List.drop_eq_nil_of_le (by simp; omega)]
    simp
  rw [this]
theorem parts_eq {t : Fm} {parts : Array (Nat × Operand)} {ws : List Value} (hv : evL t (parts.toList.map (·.2)) = some ws) : (parts.map fun (i, x) => (i, evD t x)).toList = (parts.toList.map (·.1)).zip ws := by
  obtain ⟨_, h2⟩ := evL_of hv
  rw [← h2, Array.toList_map]
  generalize parts.toList = l
  induction l with
  | nil => rfl
  | cons x l ih => obtain ⟨i, y⟩ := x; simp [ih]
theorem Step.build {X : TypeId} {parts : Array (Nat × Operand)} {ws : List Value} {c : Array Value} (hv : evL t (parts.toList.map (·.2)) = some ws) (hb : abuild P X ((parts.toList.map (·.1)).zip ws) = some (.agg c)) (hlt : Nat.blt d nt = true) (hK : K (put t d (.agg c)) m) :
    Step P nt ops ⟨some d, .build X parts, T, p, af, none⟩ t m K := by
  obtain ⟨h1, _⟩ := evL_of hv
  refine .q rfl rfl hlt (fun x hx => h1 x (by simpa [Op.operands] using hx)) ?_ hK
  simp only [aquiet, parts_eq hv, hb]
theorem Step.buildS {X : TypeId} {len : Nat} {parts : Array (Nat × Operand)} {ws : List Value} {c : List Value} {M L L' : AM} (k : Nat) (hk : L.length = k) (hv : evL t (parts.toList.map (·.2)) = some ws)
    (hb : ∀ (m : AM) (n : Nat), abuildSlice P m n X len ((parts.toList.map (·.1)).zip ws) = some (.slice (some ⟨n, 0, none⟩) len len, m.set n (some { cells := c }))) (hlt : Nat.blt d nt = true) (hL : L ++ [some { cells := c }] = L') (hK : K (put t d (.slice (some ⟨M.length + k, 0, none⟩) len len)) (M ++ L')) :
    Step P nt ops ⟨some d, .buildSlice X len parts, T, p, af, none⟩ t (M ++ L) K := by
  subst hL
  obtain ⟨h1, _⟩ := evL_of hv
  refine .l rfl rfl hlt rfl (fun x hx => h1 x (by simpa [Op.operands] using hx)) (loudN hk rfl (v := .slice (some ⟨M.length + k, 0, none⟩) len len) ?_ hK)
  simp only [aloud, parts_eq hv, hb, set_new_at M L hk]
def gv (a n : Nat) : Value := if n = 0 then .slice none 0 0 else .slice (some ⟨a, 0, none⟩) n n
def gb (c : List Value) (s : Nat) : Option Blk := match c with
  | [] => none
  | x :: l => some { cells := x :: l, kind := .grow, size := s }
theorem gv_pos {a n : Nat} (h : 0 < n) : gv a n = .slice (some ⟨a, 0, none⟩) n n := if_neg (by omega)
theorem gb_pos {c : List Value} {s : Nat} (h : 0 < c.length) : gb c s = some { cells := c, kind := .grow, size := s } := by
  cases c with
  | nil => simp at h
  | cons x l => rfl
theorem gv_sl (a n : Nat) : Sl (gv a n) a 0 n := by
  unfold gv
  split
  · rename_i h; exact .inl ⟨rfl, h⟩
  · exact .inr (.inl ⟨n, Nat.le_refl _, rfl⟩)
theorem Step.appG {x y : Operand} {X Y e e' : TypeId} {s by_ : Nat} {z : Array Value} {k q r n xl : Nat} {c new : List Value} {M L L' : AM} (hk : L.length = k) (hx : evo t x = some (gv (M.length + q) n)) (hy : evo t y = some (.slice (some ⟨M.length + r, 0, none⟩) xl xl)) (hE : elemB P X = some (e, s, by_, z)) (hY : P.underlying Y = some (.slice e'))
    (hs : Nat.blt 0 s = true) (hxl : Nat.blt 0 xl = true) (hq : L[q]? = some (gb c s)) (hc : c.length = n * s) (hr : L[r]? = some (some { cells := new })) (hn : new.length = xl * s) (hn1 : new.all (·.oneCell') = true) (hb : (n + xl) * by_ ≤ 1099511627776 ∧ n + xl ≤ 1099511627776) (hlt : Nat.blt d nt = true)
    (hL : L.set q none ++ [some { cells := c ++ new, kind := .grow, size := s }] = L') (hK : K (put t d (.slice (some ⟨M.length + k, 0, none⟩) (n + xl) (n + xl))) (M ++ L')) :
    Step P nt ops ⟨some d, .call ⟨.builtin .append, #[x, y], #[X, Y]⟩, T, p, af, none⟩ t (M ++ L) K := by
  subst hL
  simp at hs hxl
  refine .l rfl rfl hlt rfl (by simp [Op.operands, Call.operands, hx, hy]) (loudN hk rfl (v := .slice (some ⟨M.length + k, 0, none⟩) (n + xl) (n + xl)) ?_ hK)
  have hrl : r < L.length := (List.getElem?_eq_some_iff.1 hr).1
  have hql : q < L.length := (List.getElem?_eq_some_iff.1 hq).1
  have hcell : acells ((M ++ L) ++ [none]) s xl (.slice (some ⟨M.length + r, 0, none⟩) xl xl) = some new := by
    have hg : ((M ++ L) ++ [none])[M.length + r]? = some (some { cells := new }) := by rw [List.append_assoc, get_app, List.getElem?_append_left hrl, hr]
    simp only [acells, hg]
    rw [if_neg (by omega), if_pos ⟨Nat.le_refl _, by simp [hn]⟩]
    simp [← hn]
  simp only [aloud, evD_of hx, evD_of hy, aappend, hE, hY, aSliceLen, hcell]
  rw [if_neg (by simp [hn1]; omega)]
  by_cases hn0 : n = 0
  · subst hn0
    have hc0 : c = [] := List.eq_nil_of_length_eq_zero (by omega)
    subst hc0
    have hset : L.set q none = L := by
      apply List.ext_getElem?
      intro j
      by_cases e : q = j
      · subst e; rw [List.getElem?_set_self hql, hq]; simp [gb]
      · rw [List.getElem?_set_ne e]
    simp only [gv, if_true]
    rw [if_neg (by omega), if_pos ⟨by simpa using hb.1, by simpa using hb.2⟩, set_new_at M L hk, hset]
    simp
  · have hc1 : 0 < c.length := by rw [hc]; exact Nat.mul_pos (by omega) hs
    rw [gb_pos hc1] at hq
    rw [gv_pos (by omega)]
    simp only
    have hg : ((M ++ L) ++ [none])[M.length + q]? = some (some { cells := c, kind := .grow, size := s }) := by rw [List.append_assoc, get_app, List.getElem?_append_left hql, hq]
    rw [if_neg (by omega)]
    simp only [hg]
    rw [if_neg (by omega), if_pos ⟨hb.1, hb.2, Nat.le_refl _⟩, if_pos ⟨by simp [hc], trivial⟩]
    simp only [List.drop_zero, Option.some.injEq, Prod.mk.injEq, true_and]
    have h1 : ((M ++ L) ++ [none]).set (M.length + q) none = (M ++ L.set q none) ++ [none] := by
      rw [List.append_assoc, set_app, List.set_append_left _ _ hql, List.append_assoc]
    rw [h1, List.take_of_length_le (by omega)]
    exact set_new_at M (L.set q none) (k := k) (by simpa using hk) _ none
/-- The call returns r; memory is as it was. -/
def Ret (r : Value) (m : AM) : Value → AM → Prop := fun v m' => r = v ∧ m = m'
/-- The call returns a slice of n elements in a new block b. -/
def New (b : Option Blk) (n : Nat) (m : AM) : Value → AM → Prop := fun v m' => v = .slice (some ⟨m.length, 0, none⟩) n n ∧ m' = m ++ [b]
theorem Step.callR {args : Array Operand} {tys : Array TypeId} {g : FuncId} {vs : List Value} {fn : Func} {b : Code} {r : Value} (hP : Fit P) (ha : evL t args.toList = some vs) (hf : P.funcs[g]? = some fn) (hb : fn.body = some b)
    (hlt : Nat.blt d nt = true) (h : ACall P g vs.toArray m (Ret r m)) (hK : K (put t d r) m) : Step P nt ops ⟨some d, .call ⟨.value (.func g), args, tys⟩, T, p, af, none⟩ t m K :=
  .callF hP ha hf hb hlt h (by rintro v m' ⟨rfl, rfl⟩; exact hK)
theorem Step.callN {args : Array Operand} {tys : Array TypeId} {g : FuncId} {vs : List Value} {fn : Func} {b : Code} {n k : Nat} {bl : Option Blk} {M L L' : AM} (hP : Fit P) (hk : L.length = k) (ha : evL t args.toList = some vs) (hf : P.funcs[g]? = some fn) (hb : fn.body = some b)
    (hlt : Nat.blt d nt = true) (h : ACall P g vs.toArray (M ++ L) (New bl n (M ++ L))) (hL : L ++ [bl] = L') (hK : K (put t d (.slice (some ⟨M.length + k, 0, none⟩) n n)) (M ++ L')) : Step P nt ops ⟨some d, .call ⟨.value (.func g), args, tys⟩, T, p, af, none⟩ t (M ++ L) K :=
  .callF hP ha hf hb hlt h (by
    rintro v m' ⟨rfl, rfl⟩
    subst hL
    rw [List.length_append, hk, List.append_assoc]
    exact hK)
/-- A call through a closure. -/
theorem Step.callV {x : Operand} {args : Array Operand} {tys : Array TypeId} {g : FuncId} {f c : Array Value} {vs : List Value} {fn : Func} {b : Code} {r : Value} (hP : Fit P) (hx : evo t x = some (.func (.func g) f c)) (ha : evL t args.toList = some vs) (hf : P.funcs[g]? = some fn) (hb : fn.body = some b)
    (hlt : Nat.blt d nt = true) (h : ACall P g (f ++ vs.toArray ++ c) m (Ret r m)) (hK : K (put t d r) m) : Step P nt ops ⟨some d, .call ⟨.value x, args, tys⟩, T, p, af, none⟩ t m K :=
  .call hP hx ha hf hb hlt h (by rintro v m' ⟨rfl, rfl⟩; exact hK)
/-- nil or not -/
theorem Step.eqNil {x y : Operand} {X Y : TypeId} {q : Addr} {n c : Nat} {e : TypeId} (hx : evo t x = some (.slice (some q) n c)) (hy : evo t y = some (.slice none 0 0)) (hX : P.underlying X = some (.slice e)) (hlt : Nat.blt d nt = true) (hK : K (put t d (.bool false)) m) : Step P nt ops ⟨some d, .binOp .eql X x y Y, T, p, af, none⟩ t m K :=
  .q rfl rfl hlt (by simp [Op.operands, hx, hy]) (by simp [aquiet, evD_of hx, evD_of hy, aint, anil, hX, bEq]) hK
end
/-- The block at p is the one that lay at q: other names, and what the call made besides is let go. -/
theorem Gc.mv {t : Fm} {M L L1 : AM} {p q : Nat} {l : List (Nat × Value)} (hp : p < L1.length) (hq : L1.length ≤ q) (hpq : L1[p]? = L[q]?) (hrest : ∀ j b, j ≠ p → L1[j]? = some (some b) → L[j]? = some (some b))
    (hc : ∀ b, some b ∈ L1 → ∀ v ∈ b.cells, Ren (fun i => if i = M.length + p then M.length + q else i) (M.length + L1.length) v v)
    (h : All (fun i v => ∃ v', t i = some v' ∧ Ren (fun i => if i = M.length + p then M.length + q else i) (M.length + L1.length) v v') l) : Gc M t (M ++ L) (fr l) (M ++ L1) := by
  refine ⟨fun i => if i = M.length + p then M.length + q else i, by simp, fun j hj => if_neg (by omega), fun i j b c hi hj e => ?_, fun j b hj => ?_, fun i v hi => by
    obtain ⟨v', h1, h2⟩ := fr_all h i v hi
    exact ⟨v', h1, by simpa using h2⟩⟩
  · have hi' := (List.getElem?_eq_some_iff.1 hi).1
    have hj' := (List.getElem?_eq_some_iff.1 hj).1
    simp at hi' hj'
    simp only at e
    split at e <;> split at e <;> omega
  · rcases Nat.lt_or_ge j M.length with hlt | hge
    · rw [List.getElem?_append_left hlt] at hj
      exact .inl ⟨hlt, get_old _ hj, hj⟩
    · have hj0 := hj
      rw [List.getElem?_append_right hge] at hj
      have hmem := List.mem_of_getElem? hj
      refine .inr ⟨b, ?_, rfl, rfl, rfl, fun k v hk => ⟨v, hk, ?_⟩⟩
      · by_cases e : j = M.length + p
        · subst e
          simp only [if_true]
          rw [Nat.add_sub_cancel_left] at hj
          rw [get_app, ← hpq]; exact hj
        · simp only [if_neg e]
          rw [List.getElem?_append_right hge]
          exact hrest _ b (by omega) hj
      · have := hc b hmem v (List.mem_of_getElem? hk)
        simpa using this
end Go.Proofs.Ytajpngnphbdnnaa.Abs
namespace Go.Proofs.Ytajpngnphbdnnaa.Abs
set_option linter.unusedSimpArgs false
set_option linter.unusedVariables false
open Go.RowKit
open Go.Proofs.Ytajpngnphbdnnaa.Sim
/-- From here a round may begin anew with the frame l and the blocks L. -/
def Back (M : AM) (t : Fm) (m : AM) (l : List (Nat × Value)) (L : AM) : Prop := (m = M ++ L ∧ All (fun i v => t i = some v) l) ∨ Gc M t m (fr l) (M ++ L)
section
variable {P : Program} {nt : Nat} {M L : AM} {t : Fm} {Q : AEx → Fm → AM → Prop} {ops : Array Oper} {K : Fm → AM → Prop} {d T : Nat} {p : String} {af : Array Edge}
theorem Back.ok {base : Nat} {R R0 : Pl} {m : AM} {w w0 : World} {u : Array Value} {l : List (Nat × Value)} (h : Back M t m l L) (h0 : MRep base R0 M w0) (hp : Post base M m R0 R w0 w) (ht : FR R nt t u) : ∃ R1, Post base M (M ++ L) R0 R1 w0 w ∧ FR R1 nt (fr l) u := by
  rcases h with ⟨rfl, h⟩ | h
  · exact ⟨R, hp, ht.weak (fr_all h)⟩
  · exact h.ok h0 hp ht
theorem AW.loopT {c : Code} (I : Nat → List (Nat × Value) → AM → Prop) (h0 : ∃ k l L', Back M t (M ++ L) l L' ∧ I k l L')
    (round : ∀ k l L, I k l L → AW P nt M c (fr l) (M ++ L) (Then (fun t' m' => ∃ k' l' L', k' < k ∧ Back M t' m' l' L' ∧ I k' l' L') Q)) : AW P nt M (.loop c) t (M ++ L) Q := by
  intro base R0 w0 R ac w hb hm0 hp ht
  let J : Nat → Act → World → Prop := fun k a w => ∃ l L R, I k l L ∧ Post base M (M ++ L) R0 R w0 w ∧ FR R nt (fr l) a.tmps ∧ a.defers = ac.defers
  have hJ0 : ∃ k, J k ac w := by
    obtain ⟨k, l, L', h1, h2⟩ := h0
    obtain ⟨R1, k1, k2⟩ := h1.ok hm0 hp ht
    exact ⟨k, l, L', R1, h2, k1, k2, rfl⟩
  open Classical in
  let μ : Act → World → Nat := fun a w => if h : ∃ k, J k a w then Classical.choose (least _ h) else 0
  have hμ : ∀ a w (h : ∃ k, J k a w), J (μ a w) a w ∧ ∀ k, J k a w → μ a w ≤ k := fun a w h => by
    have hs := Classical.choose_spec (least _ h)
    have e : μ a w = Classical.choose (least _ h) := dif_pos h
    rw [e]
    exact ⟨hs.1, fun k hk => Nat.le_of_not_lt fun hlt => hs.2 k hlt hk⟩
  refine wp_loop (fun a w => ∃ k, J k a w) μ hJ0 fun a w hJ => ?_
  obtain ⟨⟨l2, L2, R2, q1, q2, q3, q4⟩, _⟩ := hμ a w hJ
  refine wp_mono (round _ _ _ q1 base R0 w0 R2 a w hb hm0 q2 q3) ?_
  rintro ex a' w' ⟨e, t', m', R', rfl, h2, h3, h4, h5⟩
  cases e with
  | normal =>
    obtain ⟨k', l', L', r1, r2, r3⟩ := h5
    obtain ⟨R1, s1, s2⟩ := r2.ok hm0 h3 h4
    have hJ' : J k' a' w' := ⟨l', L', R1, r3, s1, s2, h2.trans q4⟩
    exact ⟨⟨k', hJ'⟩, Nat.lt_of_le_of_lt ((hμ a' w' ⟨k', hJ'⟩).2 k' hJ') r1⟩
  | exit i => exact ⟨.exit i, t', m', R', rfl, h2.trans q4, h3, h4, h5⟩
  | ret => exact ⟨.ret, t', m', R', rfl, h2.trans q4, h3, h4, h5⟩
theorem ACall.start {f : FuncId} {fn : Func} {c : Code} {args : Array Value} {Q : Value → AM → Prop} (hf : P.funcs[f]? = some fn) (hb : fn.body = some c) (hsz : Nat.ble args.size fn.ntmps = true)
    (h : AW P fn.ntmps M c (argF args) (M ++ []) (Ends P fn Q)) : ACall P f args M Q :=
  .intro hf hb (Nat.le_of_ble_eq_true hsz) (by rw [List.append_nil] at h; exact h)
/-- Cells that name no blocks. -/
def CellsOk (L : AM) : Prop := ∀ b, some b ∈ L → ∀ v ∈ b.cells, g0 v = true
theorem CellsOk.nil : CellsOk [] := fun b h => by simp at h
theorem CellsOk.none {L : AM} (h : CellsOk L) : CellsOk (none :: L) := fun b hb => h b (by simpa using hb)
theorem CellsOk.cons {b : Blk} {L : AM} (hb : ∀ v ∈ b.cells, g0 v = true) (h : CellsOk L) : CellsOk (some b :: L) := fun c hc => by
  rcases List.mem_cons.1 hc with e | e
  · injection e with e; subst e; exact hb
  · exact h c e
theorem Back.trim {m : AM} {l : List (Nat × Value)} {L1 L2 L3 : AM} (hm : m = M ++ L3) (hL : L3 = L1 ++ L2) (hc : CellsOk L1) (h : All (fun i v => t i = some v ∧ Ren rid (M.length + L1.length) v v) l) : Back M t m l L1 := by
  subst hm
  exact .inr (Gc.trim hL (fun b hb v hv => .of_g0 (hc b hb v hv)) h)
theorem Back.mv {m : AM} {l : List (Nat × Value)} {L1 L3 : AM} (p q : Nat) (hm : m = M ++ L3) (hp : Nat.blt p L1.length = true) (hq : Nat.ble L1.length q = true) (hpq : L1[p]? = L3[q]?) (hrest : ∀ j b, j ≠ p → L1[j]? = some (some b) → L3[j]? = some (some b)) (hc : CellsOk L1)
    (h : All (fun i v => ∃ v', t i = some v' ∧ Ren (fun i => if i = M.length + p then M.length + q else i) (M.length + L1.length) v v') l) : Back M t m l L1 := by
  subst hm
  exact .inr (Gc.mv (by simpa using hp) (Nat.le_of_ble_eq_true hq) hpq hrest (fun b hb v hv => .of_g0 (hc b hb v hv)) h)
theorem Ren.slice_mv {N p q : Nat} {l c o n : Nat} (h : N + p < n) : Ren (fun i => if i = N + p then N + q else i) n (.slice (some ⟨N + p, o, none⟩) l c) (.slice (some ⟨N + q, o, none⟩) l c) := by
  have := Ren.slice (ρ := fun i => if i = N + p then N + q else i) (n := n) (N + p) o l c h
  simpa using this
theorem Ren.slice_ne {N p q : Nat} {a l c o n : Nat} (h : a < n) (hne : a ≠ N + p) : Ren (fun i => if i = N + p then N + q else i) n (.slice (some ⟨a, o, none⟩) l c) (.slice (some ⟨a, o, none⟩) l c) := by
  have := Ren.slice (ρ := fun i => if i = N + p then N + q else i) (n := n) a o l c h
  simpa [hne] using this
theorem Ren.spot_ne {N p q : Nat} {a o n k : Nat} (h : a < n) (hne : a ≠ N + p) : Ren (fun i => if i = N + p then N + q else i) n (.slice (some ⟨a, o, some k⟩) 0 0) (.slice (some ⟨a, o, some k⟩) 0 0) := by
  have := Ren.sliceSpot (ρ := fun i => if i = N + p then N + q else i) (n := n) a o k h
  simpa [hne] using this
theorem Ren.of_sl_ne {N p q : Nat} {v : Value} {a o n k : Nat} (h : Sl v a o k) (ha : a < N) (hn : N ≤ n) : Ren (fun i => if i = N + p then N + q else i) n v v := by
  rcases h with ⟨rfl, _⟩ | ⟨c, _, rfl⟩ | ⟨_, o', k', rfl⟩
  · exact .sliceNil
  · exact .slice_ne (by omega) (by omega)
  · exact .spot_ne (by omega) (by omega)
/-- At the end: all that the call made is let go. -/
theorem AW.retD {l : List (Nat × Value)} (h : All (fun i v => t i = some v ∧ Ren rid M.length v v) l) (hQ : Q .ret (fr l) M) : AW P nt M .ret t (M ++ L) Q := .gc (Gc.drop h) (.ret hQ)
theorem AW.retB {l : List (Nat × Value)} {L1 : AM} (hB : Back M t (M ++ L) l L1) (hQ : Q .ret (fr l) (M ++ L1)) : AW P nt M .ret t (M ++ L) Q := by
  intro base R0 w0 R a w hb h0 hp ht
  obtain ⟨R1, k1, k2⟩ := hB.ok h0 hp ht
  exact AW.ret hQ base R0 w0 R1 a w hb h0 k1 k2
theorem Step.ix1z {x y : Operand} {a n k X : Nat} {kk : IntKind} {v : Value} {m : AM} (hx : evo t x = some v) (hs : Sl v a 0 n) (hy : evo t y = some (.int kk ((k : Nat) : Int))) (he : elB P X = some 1) (hlt : Nat.blt d nt = true) (hk : k < n) (hK : K (put t d (.pointer (some ⟨a, k, none⟩))) m) : Step P nt ops ⟨some d, .indexAddr X x y, T, p, af, none⟩ t m K :=
  .ix1 hx hs hy he hlt hk (by simpa using hK)
end
def planB (P : Program) (ops : Array Oper) : Bool := match plan P ops ops.size (Array.replicate ops.size false) with
  | some q => q == List.range ops.size
  | none => false
def AWo (P : Program) (nt : Nat) (ops : Array Oper) : List Oper → Fm → AM → (Fm → AM → Prop) → Prop
  | [], t, m, Q => Q t m
  | o :: rest, t, m, Q => Step P nt ops o t m (fun t m => AWo P nt ops rest t m Q)
section
variable {P : Program} {nt : Nat} {ops : Array Oper} {t : Fm} {m m0 : AM}
theorem AWo.nil {Q : Fm → AM → Prop} (h : Q t m) : AWo P nt ops [] t m Q := h
theorem AWo.cons {o : Oper} {rest : List Oper} {Q : Fm → AM → Prop} (h : Step P nt ops o t m (fun t m => AWo P nt ops rest t m Q)) : AWo P nt ops (o :: rest) t m Q := h
theorem AWo.to {Q : Fm → AM → Prop} : ∀ (l : List Oper) (k : Nat) (t : Fm) (m : AM), (∀ j, l[j]? = ops[k + j]?) → AWo P nt ops l t m Q → AWi P nt ops (List.range' k l.length) t m Q
  | [], _, _, _, _, h => h
  | o :: rest, k, t, m, hl, h => by
    rw [List.length_cons, List.range'_succ]
    refine ⟨o, by have := hl 0; simpa using this.symm, ?_⟩
    exact Step.mono h fun v m' hk => AWo.to rest (k + 1) _ _ (fun j => by have := hl (j + 1); simpa [Nat.add_assoc, Nat.add_comm 1 j] using this) hk
theorem AW.regL {id : Nat} {l : List Oper} {Q : AEx → Fm → AM → Prop} (h : AWo P nt l.toArray l t m (fun t m => Q .normal t m)) : AW P nt m0 (.region id l.toArray false) t m Q :=
  .reg rfl (by
    have := AWo.to l 0 t m (by simp) h
    simpa [List.range_eq_range'] using this)
/-- A region that draws, and whose plan is the order of the text. -/
theorem AW.drawL (hP : Fit P) {id : Nat} {l : List Oper} {Q : AEx → Fm → AM → Prop} (hl : planB P l.toArray = true) (h : AWo P nt l.toArray l t m (fun t m => Q .normal t m)) : AW P nt m0 (.region id l.toArray true) t m Q := by
  unfold planB at hl
  split at hl
  · rename_i q hq
    have e := eq_of_beq hl
    subst e
    exact .draw hP hq (by
      have := AWo.to l 0 t m (by simp) h
      simpa [List.range_eq_range'] using this)
  · cases hl
end
def iv (l : List Int) : List Value := l.map (.int .i64)
def bv (l : List Bool) : List Value := l.map .bool
theorem iv_get {l : List Int} {k : Nat} (h : k < l.length) : (iv l)[k]? = some (.int .i64 (l.getD k 0)) := by simp [iv, h]
theorem bv_get {l : List Bool} {k : Nat} (h : k < l.length) : (bv l)[k]? = some (.bool (l.getD k false)) := by simp [bv, h]
theorem iv_set (l : List Int) (k : Nat) (x : Int) : (iv l).set k (.int .i64 x) = iv (l.set k x) := by simp [iv, List.map_set]
theorem bv_set (l : List Bool) (k : Nat) (x : Bool) : (bv l).set k (.bool x) = bv (l.set k x) := by simp [bv, List.map_set]
theorem iv_rep (n : Nat) : List.replicate n (.int .i64 0) = iv (List.replicate n 0) := by simp [iv]
theorem bv_rep (n : Nat) : List.replicate n (.bool false) = bv (List.replicate n false) := by simp [bv]
theorem iv_len (l : List Int) : (iv l).length = l.length := by simp [iv]
theorem bv_len (l : List Bool) : (bv l).length = l.length := by simp [bv]
theorem g0_iv (l : List Int) : ∀ v ∈ iv l, g0 v = true := fun v h => by
  obtain ⟨x, _, rfl⟩ := List.mem_map.1 h; rfl
theorem g0_bv (l : List Bool) : ∀ v ∈ bv l, g0 v = true := fun v h => by
  obtain ⟨x, _, rfl⟩ := List.mem_map.1 h; rfl
theorem iv_one (l : List Int) : (iv l).all (·.oneCell') = true := by simp [iv, Value.oneCell']
theorem ints_new {M : AM} {L : AM} {k : Nat} {l : List Int} {b : Blk} (h : L[k]? = some (some b)) (hb : b.cells = iv l) (n : Nat) (hn : n = l.length) : Ints (M ++ L) (.slice (some ⟨M.length + k, 0, none⟩) n n) l := by
  subst hn
  refine ⟨M.length + k, 0, Sl.mk (Nat.le_refl _), by have := (List.getElem?_eq_some_iff.1 h).1; simp; omega, fun j hj => ?_⟩
  exact Rd.new h (by rw [hb, Nat.zero_add]; exact iv_get hj)
theorem ints_at {M : AM} {l : List Int} {b : Blk} {a : Nat} (h : M[a]? = some (some b)) (hb : b.cells = iv l) (n : Nat) (hn : n = l.length) : Ints M (.slice (some ⟨a, 0, none⟩) n n) l := by
  subst hn
  exact ⟨a, 0, Sl.mk (Nat.le_refl _), (List.getElem?_eq_some_iff.1 h).1, fun j hj => ⟨b, h, by rw [hb, Nat.zero_add]; exact iv_get hj⟩⟩
theorem ints_nil {M : AM} (hM : 0 < M.length) : Ints M (.slice none 0 0) [] := ⟨0, 0, .inl ⟨rfl, rfl⟩, hM, fun k hk => by simp at hk⟩
end Go.Proofs.Ytajpngnphbdnnaa.Abs
namespace Go.Proofs.Ytajpngnphbdnnaa.Abs
set_option linter.unusedSimpArgs false
set_option linter.unusedVariables false
open Go.RowKit
open Go.Proofs.Ytajpngnphbdnnaa.Sim
section
variable {P : Program} {nt : Nat} {ops : Array Oper} {t : Fm} {m : AM} {K : Fm → AM → Prop} {d T : Nat} {p : String} {af : Array Edge}
theorem still_bind {α β : Type} (s : Sem α) (f : α → Sem β) : Sim.still P (s.bind f) = match Sim.still P s with
  | some a => Sim.still P (f a)
  | none => none := by
  induction s with
  | pure a => rfl
  | program k ih => simp only [Sem.bind, Sim.still]; exact ih _
  | _ => rfl
/-- append to an empty slice of one's own: its elements in a new block. -/
theorem Step.appE {x y : Operand} {X Y e e' : TypeId} {s by_ : Nat} {z : Array Value} {k q a o n c : Nat} {new : List Value} {M L L' : AM} (hk : L.length = k) (hx : evo t x = some (.slice (some ⟨M.length + q, 0, none⟩) 0 0)) (hy : evo t y = some (.slice (some ⟨a, o, none⟩) n c)) (hE : elemB P X = some (e, s, by_, z)) (hY : P.underlying Y = some (.slice e'))
    (hs : Nat.blt 0 s = true) (hq : L[q]? = some (some { cells := [] })) (hr : RdL (M ++ L) a o new) (hn : new.length = n * s) (hpos : 0 < n) (hn1 : new.all (·.oneCell') = true) (hb : n * by_ ≤ 1099511627776 ∧ n ≤ 1099511627776) (hlt : Nat.blt d nt = true)
    (hL : L ++ [some { cells := new, kind := .grow, size := s }] = L') (hK : K (put t d (.slice (some ⟨M.length + k, 0, none⟩) n n)) (M ++ L')) :
    Step P nt ops ⟨some d, .call ⟨.builtin .append, #[x, y], #[X, Y]⟩, T, p, af, none⟩ t (M ++ L) K := by
  subst hL
  simp at hs
  refine .l rfl rfl hlt rfl (by simp [Op.operands, Call.operands, hx, hy]) (loudN hk rfl (v := .slice (some ⟨M.length + k, 0, none⟩) n n) ?_ hK)
  obtain ⟨b, r1, r2⟩ := hr
  have hql : q < L.length := (List.getElem?_eq_some_iff.1 hq).1
  have hr' : ((M ++ L) ++ [none])[a]? = some (some b) := get_old _ r1
  have hg : ((M ++ L) ++ [none])[M.length + q]? = some (some { cells := [] }) := by rw [List.append_assoc, get_app, List.getElem?_append_left hql, hq]
  have hns : 0 < n * s := Nat.mul_pos hpos hs
  have hlast := r2 (n * s - 1) new[n * s - 1] (List.getElem?_eq_getElem (by omega))
  have hlen := (List.getElem?_eq_some_iff.1 hlast).1
  have htake : (b.cells.drop o).take (n * s) = new := by
    apply List.ext_getElem?
    intro j
    by_cases hj : j < n * s
    · rw [List.getElem?_take, if_pos hj, List.getElem?_drop, r2 j new[j] (List.getElem?_eq_getElem (by omega)), List.getElem?_eq_getElem (by omega)]
    · rw [List.getElem?_take, if_neg hj, List.getElem?_eq_none (by omega)]
  have hcell : acells ((M ++ L) ++ [none]) s n (.slice (some ⟨a, o, none⟩) n c) = some new := by
    simp only [acells, hr']
    rw [if_neg (by omega), if_pos ⟨Nat.le_refl _, by omega⟩, htake]
  simp only [aloud, evD_of hx, evD_of hy, aappend, hE, hY, aSliceLen, hcell]
  rw [if_neg (by simp [hn1]; omega), if_neg (by omega)]
  simp only [hg]
  rw [if_neg (by omega), if_pos ⟨by simpa using hb.1, by simpa using hb.2, Nat.le_refl _⟩, if_pos (by simp)]
  rw [set_new_at M L hk]
  simp
end
theorem Back.pad {M L : AM} {t : Fm} {l : List (Nat × Value)} (h : All (fun i v => t i = some v ∧ Ren rid (M.length + (L ++ [none]).length) v v) l) (hc : CellsOk L) : Back M t (M ++ L) l (L ++ [none]) := by
  refine .inr ⟨rid, by simp, fun _ _ => rfl, fun _ _ _ _ _ _ e => e, fun j b hj => ?_, fun i v hi => by
    obtain ⟨h1, h2⟩ := fr_all h i v hi
    exact ⟨v, h1, by simpa using h2⟩⟩
  have hj2 : (M ++ L)[j]? = some (some b) := by
    rw [← List.append_assoc] at hj
    rcases Nat.lt_or_ge j (M ++ L).length with hlt | hge
    · rwa [List.getElem?_append_left hlt] at hj
    · rw [List.getElem?_append_right hge] at hj
      cases q : j - (M ++ L).length with
      | zero => rw [q] at hj; simp at hj
      | succ q' => rw [q] at hj; simp at hj
  rcases Nat.lt_or_ge j M.length with hlt | hge
  · refine .inl ⟨hlt, hj2, ?_⟩
    rwa [List.getElem?_append_left hlt] at hj2
  · refine .inr ⟨b, hj2, rfl, rfl, rfl, fun k v hk => ⟨v, hk, ?_⟩⟩
    rw [List.getElem?_append_right hge] at hj2
    exact .of_g0 (hc b (List.mem_of_getElem? hj2) v (List.mem_of_getElem? hk))
theorem CellsOk.gb {c : List Value} {s : Nat} {L : AM} (hb : ∀ v ∈ c, g0 v = true) (h : CellsOk L) : CellsOk (gb c s :: L) := by
  cases c with
  | nil => exact .none h
  | cons x l => exact .cons hb h
theorem Ren.of_gv {N a n : Nat} (h : a < N) : Ren rid N (gv a n) (gv a n) := by
  unfold Abs.gv
  split
  · exact .sliceNil
  · exact .slice _ _ _ _ h
/-- A new row, nil if it is empty. -/
def NewG (c : List Value) (s n : Nat) (m : AM) : Value → AM → Prop := fun v m' => v = gv (m.length + 0) n ∧ m' = m ++ [gb c s]
theorem Step.callG {P : Program} {nt : Nat} {ops : Array Oper} {t : Fm} {K : Fm → AM → Prop} {d T : Nat} {p : String} {af : Array Edge} {args : Array Operand} {tys : Array TypeId} {g : FuncId} {vs : List Value} {fn : Func} {b : Code} {n k s : Nat} {c : List Value} {M L L' : AM} (hP : Fit P) (hk : L.length = k) (ha : evL t args.toList = some vs) (hf : P.funcs[g]? = some fn) (hb : fn.body = some b)
    (hlt : Nat.blt d nt = true) (h : ACall P g vs.toArray (M ++ L) (NewG c s n (M ++ L))) (hL : L ++ [gb c s] = L') (hK : K (put t d (gv (M.length + k) n)) (M ++ L')) : Step P nt ops ⟨some d, .call ⟨.value (.func g), args, tys⟩, T, p, af, none⟩ t (M ++ L) K :=
  .callF hP ha hf hb hlt h (by
    rintro v m' ⟨rfl, rfl⟩
    subst hL
    rw [List.length_append, hk, List.append_assoc]
    exact hK)
end Go.Proofs.Ytajpngnphbdnnaa.Abs
namespace Go.Proofs.Ytajpngnphbdnnaa.Abs
set_option linter.unusedSimpArgs false
set_option linter.unusedVariables false
open Go.RowKit
open Go.Proofs.Ytajpngnphbdnnaa.Sim
/-- The memory in which block a holds the row l. -/
def St (m : AM) (a : Nat) (kd : Kind) (s : Nat) (l : List Int) : AM := m.set a (some { cells := iv l, kind := kd, size := s })
section
variable {m : AM} {a s : Nat} {kd : Kind} {l k : List Int}
theorem St.len : (St m a kd s l).length = m.length := by simp [St]
theorem St.get (h : a < m.length) : (St m a kd s l)[a]? = some (some { cells := iv l, kind := kd, size := s }) := by simp [St, h]
theorem St.ne {b : Nat} (h : b ≠ a) : (St m a kd s l)[b]? = m[b]? := by simp [St, List.getElem?_set_ne (Ne.symm h)]
theorem St.set : (St m a kd s l).set a (some { cells := iv k, kind := kd, size := s }) = St m a kd s k := by simp [St]
theorem St.rd {o : Nat} (h : a < m.length) (ho : o < l.length) : Rd (St m a kd s l) a o (.int .i64 (l.getD o 0)) := ⟨_, St.get h, iv_get ho⟩
theorem St.self (h : m[a]? = some (some { cells := iv l, kind := kd, size := s })) : St m a kd s l = m := by
  apply List.ext_getElem?
  intro i
  by_cases e : i = a
  · subst e; rw [St.get (List.getElem?_eq_some_iff.1 h).1, h]
  · rw [St.ne e]
theorem St.rd_ne {b o : Nat} {v : Value} (h : Rd m b o v) (e : b ≠ a) : Rd (St m a kd s l) b o v := by
  obtain ⟨x, h1, h2⟩ := h
  exact ⟨x, by rw [St.ne e]; exact h1, h2⟩
end
/-- Behind a piece of code one goes on from what holds on all ways. -/
theorem AW.join {P : Program} {nt : Nat} {m0 m : AM} {t : Fm} {c : Code} {K : Fm → AM → Prop} {Q : AEx → Fm → AM → Prop} (Mid : Fm → AM → Prop) (h : AW P nt m0 c t m (Then Mid Q)) (h2 : ∀ t m, Mid t m → K t m) : AW P nt m0 c t m (Then K Q) :=
  h.mono fun e t m => by cases e <;> first | exact h2 t m | exact id
section
variable {P : Program} {nt : Nat} {ops : Array Oper} {t : Fm} {m : AM} {K : Fm → AM → Prop} {d T : Nat} {p : String} {af : Array Edge}
theorem Step.storeR {x y : Operand} {ty : TypeId} {a s o : Nat} {kd : Kind} {l l' : List Int} {v : Int} (hx : evo t x = some (.pointer (some ⟨a, o, none⟩))) (hy : evo t y = some (.int .i64 v)) (hz : szB P ty = some 1) (ha : a < m.length) (hs : kd.solid = true) (ho : o < l.length)
    (hl : l.set o v = l') (hK : K t (St m a kd s l')) : Step P nt ops ⟨none, .store ty x y, T, p, af, none⟩ t (St m a kd s l) K := by
  subst hl
  refine .l0 rfl rfl rfl (by simp [Op.operands, hx, hy]) (loud_of_aloud0 (v := undef) (m' := St m a kd s (l.set o v)) rfl ?_ hK)
  have hsp : splice (iv l) o [.int .i64 v] = iv (l.set o v) := by
    rw [← iv_set]
    unfold splice
    rw [List.set_eq_take_append_cons_drop]
    simp [iv_len, ho]
  simp only [aloud, evD_of hx, evD_of hy, astore, St.get ha, hz]
  rw [if_pos (by simp [hs, iv_len, Value.cells, Value.oneCell']; omega)]
  simp [St.set, hsp, Value.cells]
theorem still_under {X : TypeId} {T : TypeDesc} (hX : P.underlying X = some T) : Sim.still P (underlying X) = some T := by
  unfold underlying
  show Sim.still P (Sem.bind program _) = _
  rw [still_bind]
  simp [program, Sim.still, hX, pure]
theorem Step.conv {x : Operand} {S D : TypeId} {k ks k' : IntKind} {a b : Int} (hx : evo t x = some (.int k a)) (hS : P.underlying S = some (.int ks)) (hD : P.underlying D = some (.int k')) (hw : k'.wrap a = b) (hlt : Nat.blt d nt = true) (hK : K (put t d (.int k' b)) m) :
    Step P nt ops ⟨some d, .convert S D x, T, p, af, none⟩ t m K := by
  refine .ground rfl rfl hlt (by simp [Op.operands, hx, g1, g0]) (fun h => by simpa [aquiet] using h) ?_ (by simp [g1, g0]) hK
  subst hw
  simp only [execOp, evD_of hx, bind]
  rw [still_bind]
  unfold convert
  simp only [bind]
  rw [still_bind, still_under hS]
  simp only
  rw [still_bind, still_under hD]
  rfl
section
variable {X Y : TypeId} {x y : Operand} {a b : Int} {c : Nat}
theorem Step.addE (hx : evo t x = some (.int .i64 a)) (hy : evo t y = some (.int .i64 b)) (he : a + b = ((c : Nat) : Int)) (hr : c ≤ 9223372036854775807) (hlt : Nat.blt d nt = true) (hK : K (put t d (.int .i64 ((c : Nat) : Int))) m) : Step P nt ops ⟨some d, .binOp .add X x y Y, T, p, af, none⟩ t m K := by
  rw [← he] at hK; exact .add hx hy (by omega) hlt hK
theorem Step.subE (hx : evo t x = some (.int .i64 a)) (hy : evo t y = some (.int .i64 b)) (he : a - b = ((c : Nat) : Int)) (hr : c ≤ 9223372036854775807) (hlt : Nat.blt d nt = true) (hK : K (put t d (.int .i64 ((c : Nat) : Int))) m) : Step P nt ops ⟨some d, .binOp .sub X x y Y, T, p, af, none⟩ t m K := by
  rw [← he] at hK; exact .sub hx hy (by omega) hlt hK
end
theorem Sl.cells {v : Value} {a o n : Nat} (h : Sl v a o n) : v.cells = #[v] ∧ v.oneCell' = true := by
  rcases h with ⟨rfl, _⟩ | ⟨c, _, rfl⟩ | ⟨_, o', k, rfl⟩ <;> exact ⟨rfl, rfl⟩
/-- A new variable with a slice. -/
theorem Step.boxV {x : Operand} {ty : TypeId} {v : Value} {M L L' : AM} (k : Nat) (hk : L.length = k) (hx : evo t x = some v) (hv : v.cells = #[v] ∧ v.oneCell' = true) (hlt : Nat.blt d nt = true) (hL : L ++ [some { cells := [v] }] = L') (hK : K (put t d (.pointer (some ⟨M.length + k, 0, none⟩))) (M ++ L')) :
    Step P nt ops ⟨some d, .box ty x, T, p, af, none⟩ t (M ++ L) K :=
  .box k hk hx (by rw [hv.1]; simp [hv.2]) hlt (by rw [hv.1]; exact hL) hK
/-- A call for what it does to the memory. -/
theorem Step.callM {args : Array Operand} {tys : Array TypeId} {g : FuncId} {vs : List Value} {fn : Func} {b : Code} {m m' : AM} {r : Value} (hP : Fit P) (ha : evL t args.toList = some vs) (hf : P.funcs[g]? = some fn) (hb : fn.body = some b)
    (hlt : Nat.blt d nt = true) (h : ACall P g vs.toArray m (Ret r m')) (hK : K (put t d r) m') : Step P nt ops ⟨some d, .call ⟨.value (.func g), args, tys⟩, T, p, af, none⟩ t m K :=
  .callF hP ha hf hb hlt h (by rintro v m1 ⟨rfl, rfl⟩; exact hK)
end
end Go.Proofs.Ytajpngnphbdnnaa.Abs
namespace Go.Proofs.Ytajpngnphbdnnaa.Abs
set_option linter.unusedSimpArgs false
set_option linter.unusedVariables false
open Go.RowKit
open Go.Proofs.Ytajpngnphbdnnaa.Sim
/-- A tree of orders. -/
inductive PT where
  | done
  | step (i : Nat) (rest : PT)
  | both (a b : PT)
deriving DecidableEq
def forkT (g : Nat → Option PT) : List Nat → Option PT
  | [] => none
  | [i] => (g i).map (.step i)
  | i :: rs => match g i, forkT g rs with
    | some a, some b => some (.both (.step i a) b)
    | _, _ => none
def planT (P : Program) (ops : Array Oper) : Nat → Array Bool → Option PT
  | 0, listed => match Region.ready .any ops listed with
    | [] => some .done
    | _ => none
  | f + 1, listed => match Region.ready .any ops listed with
    | [] => some .done
    | rs => match rs.find? (takeB P ops listed) with
      | some i => (planT P ops f (listed.setIfInBounds i true)).map (.step i)
      | none => forkT (fun i => planT P ops f (listed.setIfInBounds i true)) rs
def AWt (P : Program) (nt : Nat) (l : List Oper) (Q : Fm → AM → Prop) : PT → Fm → AM → Prop
  | .done, t, m => Q t m
  | .step i rest, t, m => ∃ o, l[i]? = some o ∧ Step P nt l.toArray o t m (fun t m => AWt P nt l Q rest t m)
  | .both a b, t, m => AWt P nt l Q a t m ∧ AWt P nt l Q b t m
section
variable {P : Program} {nt : Nat} {t : Fm} {m m0 : AM} {Q : Fm → AM → Prop} {l : List Oper}
theorem forkT_ok {g : Nat → Option PT} : ∀ {rs : List Nat} {T : PT}, forkT g rs = some T → AWt P nt l Q T t m → ∀ i ∈ rs, ∃ a, g i = some a ∧ AWt P nt l Q (.step i a) t m
  | [], _, h, _, i, hi => by cases hi
  | [j], T, h, H, i, hi => by
    simp only [forkT, Option.map_eq_some_iff] at h
    obtain ⟨a, h1, rfl⟩ := h
    obtain rfl : i = j := by simpa using hi
    exact ⟨a, h1, H⟩
  | j :: k :: rs, T, h, H, i, hi => by
    simp only [forkT] at h
    split at h
    · rename_i a b h1 h2
      injection h with h; subst h
      rcases List.mem_cons.1 hi with rfl | hi
      · exact ⟨a, h1, H.1⟩
      · exact forkT_ok h2 H.2 i hi
    · cases h
theorem planT_ok : ∀ (f : Nat) (listed : Array Bool) (T : PT) (t : Fm) (m : AM), listed.size = l.toArray.size → planT P l.toArray f listed = some T → AWt P nt l Q T t m → AWd P nt l.toArray Q f listed t m
  | 0, listed, T, t, m, hsz, h, H => by
    unfold planT at h
    split at h
    · rename_i hr
      injection h with h; subst h
      exact ⟨hr, H⟩
    · cases h
  | f + 1, listed, T, t, m, hsz, h, H => by
    unfold planT at h
    split at h
    · rename_i hr
      injection h with h; subst h
      exact ⟨fun _ => H, fun i hi => by rw [hr] at hi; cases hi⟩
    · rename_i hne
      split at h
      · rename_i i hfind
        cases hp : planT P l.toArray f (listed.setIfInBounds i true) with
        | none => rw [hp] at h; cases h
        | some T' =>
          rw [hp] at h
          simp only [Option.map_some, Option.some.injEq] at h
          subst h
          obtain ⟨o, ho', hs⟩ := H
          have ho : l.toArray[i]? = some o := by simpa using ho'
          have hr := List.mem_of_find?_eq_some hfind
          have ht := List.find?_some hfind
          unfold takeB at ht
          rw [ho] at ht
          simp only [Bool.and_eq_true] at ht
          obtain ⟨t1, t2⟩ := ht
          obtain ⟨v, hy, hk⟩ := hs.still t1
          have hih := planT_ok f _ _ _ _ (by simpa using hsz) hp hk
          generalize closeC l.toArray i l.toArray.size listed = C at t2
          unfold takeC at t2
          rw [List.all_eq_true] at t2
          have each : ∀ (j : Nat) (oj : Oper), l.toArray[j]? = some oj → _ := fun j oj hj => by
            have := t2 j (List.mem_range.2 (Array.getElem?_eq_some_iff.1 hj).1)
            rw [hj] at this
            exact this
          simp only [Bool.and_eq_true, Bool.or_eq_true] at each
          refine AWd.take ho hs.1 C listed (fun j oj hj hc hne => ?_) (fun j oj hj hc hl hne => ?_) f listed t m (fun j hj => ?_) (fun _ h => h) hr hy hih
          · have h1 := (each j oj hj).2
            rcases h1 with h1 | h1
            · exact absurd (Nat.eq_of_beq_eq_true h1) hne
            · rw [hc] at h1
              simp only at h1
              obtain ⟨e, he, hb⟩ := Array.any_eq_true'.1 h1
              simp only [Bool.and_eq_true, Bool.not_eq_true'] at hb
              exact ⟨e, he, hb.1, hb.2⟩
          · have h1 := (each j oj hj).2
            rcases h1 with h1 | h1
            · exact absurd (Nat.eq_of_beq_eq_true h1) hne
            · rw [hc] at h1
              simp only [hl, Bool.false_or, Bool.and_eq_true, Bool.or_eq_true] at h1
              exact h1
          · have hlt : j < l.toArray.size := by
              rw [← hsz]
              rcases Nat.lt_or_ge j listed.size with h' | h'
              · exact h'
              · simp [Array.getElem?_eq_none h'] at hj
            have h1 := (each j l.toArray[j] (Array.getElem?_eq_getElem hlt)).1
            rw [hj] at h1
            simpa using h1
      · refine ⟨fun h0 => absurd h0 hne, fun j hj oj hoj => ?_⟩
        obtain ⟨a, ha, o, ho', hs⟩ := forkT_ok h H j hj
        have ho : l.toArray[j]? = some o := by simpa using ho'
        rw [ho] at hoj; injection hoj with hoj; subst hoj
        exact hs.mono fun v m' hk => planT_ok f _ _ _ _ (by simpa using hsz) ha hk
def treeB (P : Program) (ops : Array Oper) (T : PT) : Bool := match planT P ops ops.size (Array.replicate ops.size false) with
  | some T' => decide (T' = T)
  | none => false
/-- A region that draws, in all orders that count. -/
theorem AW.drawT (hP : Fit P) (T : PT) {id : Nat} {Q : AEx → Fm → AM → Prop} (hl : treeB P l.toArray T = true) (h : AWt P nt l (fun t m => Q .normal t m) T t m) : AW P nt m0 (.region id l.toArray true) t m Q := by
  unfold treeB at hl
  split at hl
  · rename_i T' hq
    have e := of_decide_eq_true hl
    subst e
    exact .all hP (planT_ok _ _ _ _ _ (by simp) hq h)
  · cases hl
theorem AWt.step {i : Nat} {rest : PT} {o : Oper} (ho : l[i]? = some o) (h : Step P nt l.toArray o t m (fun t m => AWt P nt l Q rest t m)) : AWt P nt l Q (.step i rest) t m := ⟨o, ho, h⟩
theorem AWt.both {a b : PT} (h1 : AWt P nt l Q a t m) (h2 : AWt P nt l Q b t m) : AWt P nt l Q (.both a b) t m := ⟨h1, h2⟩
theorem AWt.done (h : Q t m) : AWt P nt l Q .done t m := h
theorem AW.atR {id : Nat} {ops : Array Oper} {b : Bool} {rest : Code} {Q : AEx → Fm → AM → Prop} (h : AW P nt m0 (.seq (.region id ops b) rest) t m Q) : AW P nt m0 (.seq (.region id ops b) rest) t m Q := h
theorem AW.joinG {c rest : Code} {Q : AEx → Fm → AM → Prop} (t1 : Fm) (m1 : AM) (h : AW P nt m0 c t m (Then (fun t' m' => Gc m0 t' m' t1 m1) Q)) (h2 : AW P nt m0 rest t1 m1 Q) : AW P nt m0 (.seq c rest) t m Q :=
  .seq (h.mono fun e t m => by cases e <;> first | exact fun hg => AW.gc hg h2 | exact id)
end
/-- Own blocks under other names: σ tells where the new block p lay. -/
def sg (N : Nat) (σ : List Nat) (i : Nat) : Nat := if i < N then i else N + σ.getD (i - N) 0
theorem sg_old {N : Nat} {σ : List Nat} {i : Nat} (h : i < N) : sg N σ i = i := if_pos h
theorem sg_new {N : Nat} {σ : List Nat} (k : Nat) : sg N σ (N + k) = N + σ.getD k 0 := by
  unfold sg; rw [if_neg (by omega), Nat.add_sub_cancel_left]
theorem Gc.perm {t : Fm} {M L L1 : AM} (σ : List Nat) {l : List (Nat × Value)} (hlen : σ.length = L1.length) (hinj : σ.Nodup) (hb : ∀ p, p < L1.length → L1[p]? = L[σ.getD p 0]?) (hc : ∀ b, some b ∈ L1 → ∀ v ∈ b.cells, Ren (sg M.length σ) (M.length + L1.length) v v)
    (h : All (fun i v => ∃ v', t i = some v' ∧ Ren (sg M.length σ) (M.length + L1.length) v v') l) : Gc M t (M ++ L) (fr l) (M ++ L1) := by
  refine ⟨sg M.length σ, by simp, fun j hj => sg_old hj, fun i j b c hi hj e => ?_, fun j b hj => ?_, fun i v hi => by
    obtain ⟨v', h1, h2⟩ := fr_all h i v hi
    exact ⟨v', h1, by simpa using h2⟩⟩
  · have hi' := (List.getElem?_eq_some_iff.1 hi).1
    have hj' := (List.getElem?_eq_some_iff.1 hj).1
    simp only [List.length_append] at hi' hj'
    unfold sg at e
    split at e <;> split at e
    · exact e
    · omega
    · omega
    · have e' : σ.getD (i - M.length) 0 = σ.getD (j - M.length) 0 := by omega
      have h1 : i - M.length < σ.length := by omega
      have h2 : j - M.length < σ.length := by omega
      simp only [List.getD_eq_getElem?_getD, List.getElem?_eq_getElem h1, List.getElem?_eq_getElem h2, Option.getD_some] at e'
      have := (List.getElem_inj hinj).1 e'
      omega
  · rcases Nat.lt_or_ge j M.length with hlt | hge
    · rw [List.getElem?_append_left hlt] at hj
      exact .inl ⟨hlt, get_old _ hj, hj⟩
    · have hjl := (List.getElem?_eq_some_iff.1 hj).1
      simp only [List.length_append] at hjl
      rw [List.getElem?_append_right hge] at hj
      have hmem := List.mem_of_getElem? hj
      refine .inr ⟨b, ?_, rfl, rfl, rfl, fun k v hk => ⟨v, hk, ?_⟩⟩
      · obtain ⟨p, rfl⟩ : ∃ p, j = M.length + p := ⟨j - M.length, by omega⟩
        rw [sg_new, get_app, ← hb p (by omega)]
        rwa [Nat.add_sub_cancel_left] at hj
      · have := hc b hmem v (List.mem_of_getElem? hk)
        simpa using this
theorem lenB {α : Type} {L : List α} {p n : Nat} (h : L.length = n) : ¬ p + n < L.length := by omega
theorem CellsOk.ren {L : AM} {ρ : Nat → Nat} {N : Nat} (h : CellsOk L) : ∀ b, some b ∈ L → ∀ v ∈ b.cells, Ren ρ N v v := fun b hb v hv => .of_g0 (h b hb v hv)
theorem Ren.slice_sg {N n k o l c : Nat} {σ : List Nat} (h : N + k < n) : Ren (sg N σ) n (.slice (some ⟨N + k, o, none⟩) l c) (.slice (some ⟨N + σ.getD k 0, o, none⟩) l c) := by
  have := Ren.slice (ρ := sg N σ) (n := n) (N + k) o l c h
  rwa [sg_new] at this
end Go.Proofs.Ytajpngnphbdnnaa.Abs
namespace Go.Proofs.Ytajpngnphbdnnaa.Abs
set_option linter.unusedSimpArgs false
set_option linter.unusedVariables false
open Go.RowKit
open Go.Proofs.Ytajpngnphbdnnaa.Sim
/-- All cells of a memory's blocks have a property. -/
def CellsP (p : Value → Prop) (L : AM) : Prop := ∀ b, some b ∈ L → ∀ v ∈ b.cells, p v
theorem CellsP.nil {p : Value → Prop} : CellsP p [] := fun b h => by simp at h
theorem CellsP.none {p : Value → Prop} {L : AM} (h : CellsP p L) : CellsP p (none :: L) := fun b hb => h b (by simpa using hb)
theorem CellsP.cons {p : Value → Prop} {b : Blk} {L : AM} (hb : ∀ v ∈ b.cells, p v) (h : CellsP p L) : CellsP p (some b :: L) := fun c hc => by
  rcases List.mem_cons.1 hc with e | e
  · injection e with e; subst e; exact hb
  · exact h c e
theorem CellsP.gb {p : Value → Prop} {c : List Value} {s : Nat} {L : AM} (hb : ∀ v ∈ c, p v) (h : CellsP p L) : CellsP p (gb c s :: L) := by
  cases c with
  | nil => exact .none h
  | cons x l => exact .cons hb h
section
variable {P : Program} {nt : Nat} {m m0 : AM} {t : Fm} {Q : AEx → Fm → AM → Prop}
theorem AW.label {l : Nat} (h : Q .normal t m) : AW P nt m0 (.label l) t m Q := fun _ _ _ R _ _ _ _ hp ht => wp_label ⟨.normal, t, m, R, rfl, rfl, hp, ht, h⟩
end
section
variable {P : Program} {nt : Nat} {ops : Array Oper} {t : Fm} {m : AM} {K : Fm → AM → Prop} {d T : Nat} {p : String} {af : Array Edge}
/-- A call that leaves more memory: the caller goes on over this. -/
def More (S : AM → Value → Prop) (m : AM) : Value → AM → Prop := fun v m' => ∃ N, m' = m ++ N ∧ S m' v
theorem Step.callX {args : Array Operand} {tys : Array TypeId} {g : FuncId} {vs : List Value} {fn : Func} {b : Code} {S : AM → Value → Prop} (hP : Fit P) (ha : evL t args.toList = some vs) (hf : P.funcs[g]? = some fn) (hb : fn.body = some b)
    (hlt : Nat.blt d nt = true) (h : ACall P g vs.toArray m (More S m)) (hK : ∀ (v : Value) (M : AM), (∃ N, M = m ++ N) → S M v → K (put t d v) (M ++ [])) : Step P nt ops ⟨some d, .call ⟨.value (.func g), args, tys⟩, T, p, af, none⟩ t m K :=
  .callF hP ha hf hb hlt h (by
    rintro v m' ⟨N, rfl, hS⟩
    have := hK v (m ++ N) ⟨N, rfl⟩ hS
    rwa [List.append_nil] at this)
end
end Go.Proofs.Ytajpngnphbdnnaa.Abs
namespace Go.Proofs.Ytajpngnphbdnnaa.Abs
set_option linter.unusedSimpArgs false
set_option linter.unusedVariables false
open Go.RowKit
open Go.Proofs.Ytajpngnphbdnnaa.Sim
theorem Back.padC {M L : AM} {t : Fm} {m : AM} {l : List (Nat × Value)} (hm : m = M ++ L) (h : All (fun i v => t i = some v ∧ Ren rid (M.length + (L ++ [none]).length) v v) l) (hc : CellsP (fun v => Ren rid (M.length + (L ++ [none]).length) v v) L) : Back M t m l (L ++ [none]) := by
  subst hm
  refine .inr ⟨rid, by simp, fun _ _ => rfl, fun _ _ _ _ _ _ e => e, fun j b hj => ?_, fun i v hi => by
    obtain ⟨h1, h2⟩ := fr_all h i v hi
    exact ⟨v, h1, by simpa using h2⟩⟩
  have hj2 : (M ++ L)[j]? = some (some b) := by
    rw [← List.append_assoc] at hj
    rcases Nat.lt_or_ge j (M ++ L).length with hlt | hge
    · rwa [List.getElem?_append_left hlt] at hj
    · rw [List.getElem?_append_right hge] at hj
      cases q : j - (M ++ L).length with
      | zero => rw [q] at hj; simp at hj
      | succ q' => rw [q] at hj; simp at hj
  rcases Nat.lt_or_ge j M.length with hlt | hge
  · refine .inl ⟨hlt, hj2, ?_⟩
    rwa [List.getElem?_append_left hlt] at hj2
  · refine .inr ⟨b, hj2, rfl, rfl, rfl, fun k v hk => ⟨v, hk, ?_⟩⟩
    rw [List.getElem?_append_right hge] at hj2
    have := hc b (List.mem_of_getElem? hj2) v (List.mem_of_getElem? hk)
    simpa using this
/-- Several ways to one state: the memory is the same, of the slots some are named. -/
theorem AW.joinS {P : Program} {nt : Nat} {m m0 : AM} {t : Fm} {c rest : Code} {Q : AEx → Fm → AM → Prop} (l : List (Nat × Value)) (m1 : AM) (h : AW P nt m0 c t m (Then (fun t' m' => m' = m1 ∧ All (fun i v => t' i = some v) l) Q)) (h2 : AW P nt m0 rest (fr l) m1 Q) : AW P nt m0 (.seq c rest) t m Q :=
  .seq (h.mono fun e t m => by
    cases e
    · rintro ⟨rfl, ha⟩; exact AW.weak (fr_all ha) h2
    · exact id
    · exact id)
theorem AW.pad {P : Program} {nt : Nat} {M L : AM} {t : Fm} {c : Code} {Q : AEx → Fm → AM → Prop} (l : List (Nat × Value)) (h : All (fun i v => t i = some v ∧ Ren rid (M.length + (L ++ [none]).length) v v) l) (hc : CellsP (fun v => Ren rid (M.length + (L ++ [none]).length) v v) L)
    (hk : AW P nt M c (fr l) (M ++ (L ++ [none])) Q) : AW P nt M c t (M ++ L) Q := by
  intro base R0 w0 R a w hb h0 hp ht
  obtain ⟨R1, k1, k2⟩ := (Back.padC rfl h hc).ok h0 hp ht
  exact hk base R0 w0 R1 a w hb h0 k1 k2
section
variable {P : Program} {nt : Nat} {ops : Array Oper} {t : Fm} {m : AM} {K : Fm → AM → Prop} {d T : Nat} {p : String} {af : Array Edge}
/-- s[:h] of a slice that is written out. -/
theorem Step.slTo {x y : Operand} {X e s a o n c h : Nat} {i : Int} {kk : IntKind} (hx : evo t x = some (.slice (some ⟨a, o, none⟩) n c)) (hy : evo t y = some (.int kk i)) (he : i = ((h : Nat) : Int)) (hc : h ≤ c) (hX : P.underlying X = some (.slice e)) (hsz : szB P e = some s)
    (hlt : Nat.blt d nt = true) (hK : K (put t d (.slice (some ⟨a, o, none⟩) h c)) m) : Step P nt ops ⟨some d, .slice X x none (some y) none, T, p, af, none⟩ t m K := by
  subst he
  refine .q (v := .slice (some ⟨a, o, none⟩) h c) rfl rfl hlt ?_ ?_ hK
  · simp [Op.operands, hx, hy]
  · have b2 : bnd n (some (evD t y)) = some h := by rw [evD_of hy]; simp [bnd]
    simp only [aquiet, evD_of hx, aslice0, hX, hsz, Option.map_some, Option.map_none, b2]
    simp [bnd, hc]
theorem Step.slToNil {x y : Operand} {X e s : Nat} {i : Int} {kk : IntKind} (hx : evo t x = some (.slice none 0 0)) (hy : evo t y = some (.int kk i)) (he : i = ((0 : Nat) : Int)) (hX : P.underlying X = some (.slice e)) (hsz : szB P e = some s)
    (hlt : Nat.blt d nt = true) (hK : K (put t d (.slice none 0 0)) m) : Step P nt ops ⟨some d, .slice X x none (some y) none, T, p, af, none⟩ t m K := by
  subst he
  refine .q (v := .slice none 0 0) rfl rfl hlt ?_ ?_ hK
  · simp [Op.operands, hx, hy]
  · have b2 : bnd 0 (some (evD t y)) = some 0 := by rw [evD_of hy]; simp [bnd]
    simp only [aquiet, evD_of hx, aslice0, hX, hsz, Option.map_some, Option.map_none, b2]
    simp [bnd]
end
end Go.Proofs.Ytajpngnphbdnnaa.Abs
namespace Go.Proofs.Ytajpngnphbdnnaa.Abs
set_option linter.unusedSimpArgs false
set_option linter.unusedVariables false
open Go.RowKit
open Go.Proofs.Ytajpngnphbdnnaa.Sim
section
variable {P : Program} {nt : Nat} {ops : Array Oper} {t : Fm} {m : AM} {K : Fm → AM → Prop} {d T : Nat} {p : String} {af : Array Edge}
/-- s[l:] of a slice that is written out. -/
theorem Step.slFrom {x y : Operand} {X e s a o n c l : Nat} {i : Int} {kk : IntKind} (hx : evo t x = some (.slice (some ⟨a, o, none⟩) n c)) (hy : evo t y = some (.int kk i)) (he : i = ((l : Nat) : Int)) (hl : l ≤ n) (hn : n ≤ c) (hc : l < c) (hX : P.underlying X = some (.slice e)) (hsz : szB P e = some s)
    (hlt : Nat.blt d nt = true) (hK : K (put t d (.slice (some ⟨a, o + l * s, none⟩) (n - l) (c - l))) m) : Step P nt ops ⟨some d, .slice X x (some y) none none, T, p, af, none⟩ t m K := by
  subst he
  refine .q (v := .slice (some ⟨a, o + l * s, none⟩) (n - l) (c - l)) rfl rfl hlt ?_ ?_ hK
  · simp [Op.operands, hx, hy]
  · have b2 : bnd 0 (some (evD t y)) = some l := by rw [evD_of hy]; simp [bnd]
    simp only [aquiet, evD_of hx, aslice0, hX, hsz, Option.map_some, Option.map_none, b2]
    simp only [bnd]
    rw [if_pos ⟨hl, hn, .inl hc⟩]
/-- A part of a row of ints is cleared. -/
theorem Step.clearR {x : Operand} {X e by_ a s o n c : Nat} {kd : Kind} {l l' : List Int} (hx : evo t x = some (.slice (some ⟨a, o, none⟩) n c)) (hE : elemB P X = some (e, 1, by_, #[.int .i64 0])) (ha : a < m.length) (hs : kd.solid = true) (ho : o + n ≤ l.length) (hn : 0 < n)
    (hl : l.take o ++ List.replicate n 0 ++ l.drop (o + n) = l') (hK : K t (St m a kd s l')) : Step P nt ops ⟨none, .call ⟨.builtin .clear, #[x], #[X]⟩, T, p, af, none⟩ t (St m a kd s l) K := by
  subst hl
  refine .l0 rfl rfl rfl (by simp [Op.operands, Call.operands, hx]) (loud_of_aloud0 (v := .tuple #[]) (m' := St m a kd s (l.take o ++ List.replicate n 0 ++ l.drop (o + n))) rfl ?_ hK)
  have hz : (Builtin.zeroCells #[Value.int .i64 0] n).toList = List.replicate n (Value.int .i64 0) := by
    simp [Builtin.zeroCells, Nat.mod_one, List.map_const']
  have hsp : splice (iv l) o (Builtin.zeroCells #[Value.int .i64 0] n).toList = iv (l.take o ++ List.replicate n 0 ++ l.drop (o + n)) := by
    rw [hz]
    unfold splice
    simp [iv]
  simp only [aloud, evD_of hx, aclear, hE, St.get ha]
  rw [if_neg (by omega)]
  rw [if_pos (by simp [hs, iv_len]; omega), hsp]
  simp [St.set]
end
end Go.Proofs.Ytajpngnphbdnnaa.Abs
namespace Go.Proofs.Ytajpngnphbdnnaa.Abs
set_option linter.unusedSimpArgs false
set_option linter.unusedVariables false
open Go.RowKit
open Go.Proofs.Ytajpngnphbdnnaa.Sim
/-- What holds from here on may rest on the memory as it is now. -/
theorem AW.rebase {P : Program} {nt : Nat} {m0 m : AM} {c : Code} {t : Fm} {Q : AEx → Fm → AM → Prop} (h : AW P nt m c t (m ++ []) Q) : AW P nt m0 c t m Q := by
  rw [List.append_nil] at h
  intro base R0 w0 R a w hb h0 hp ht
  refine wp_mono (h base R w R a w (Nat.le_trans hb hp.size) hp.rep (.refl hp.rep) ht) ?_
  rintro ex a' w' ⟨e, t', m', R', h1, h2, h3, h4, h5⟩
  exact ⟨e, t', m', R', h1, h2, hp.trans h3, h4, h5⟩
section
variable {P : Program} {nt : Nat} {ops : Array Oper} {t : Fm} {m : AM} {K : Fm → AM → Prop} {d T : Nat} {p : String} {af : Array Edge}
/-- The tail of a row that ends a block of one's own, whether it is empty or not. -/
def tailV (a o n c : Nat) : Value := if n = 0 then .slice (some ⟨a, o, none⟩) 0 0 else .slice (some ⟨a, o + 1, none⟩) n c
/-- Such a row. -/
def OwnAt (M : AM) (a : Nat) (L : AM) : Prop := ∃ b, (M ++ L)[a]? = some (some b) ∧ b.kind = .own
theorem OwnAt.new {M L : AM} {k : Nat} {b : Blk} (h : L[k]? = some (some b)) (hk : b.kind = .own) : OwnAt M (M.length + k) L := ⟨b, by rw [get_app]; exact h, hk⟩
theorem Step.tail {x y : Operand} {X e a o n : Nat} {kk : IntKind} {M L L' : AM} (hx : evo t x = some (.slice (some ⟨a, o, none⟩) (n + 1) (n + 1))) (hy : evo t y = some (.int kk 1)) (ho : OwnAt M a L) (hX : P.underlying X = some (.slice e)) (hsz : szB P e = some 1)
    (hlt : Nat.blt d nt = true) (hL : L ++ [none] = L') (hK : K (put t d (tailV a o n n)) (M ++ L')) : Step P nt ops ⟨some d, .slice X x (some y) none none, T, p, af, none⟩ t (M ++ L) K := by
  subst hL
  obtain ⟨b, hb, hk⟩ := ho
  refine .l rfl rfl hlt (by simp [stillB, hX]) (by simp [Op.operands, hx, hy]) (loudN (L := L) rfl rfl (v := tailV a o n n) ?_ hK)
  have b2 : bnd 0 (some (evD t y)) = some 1 := by rw [evD_of hy]; simp [bnd]
  have hb' : ((M ++ L) ++ [none])[a]? = some (some b) := get_old _ hb
  simp only [aloud, evD_of hx, aslice, hX, hsz, Option.map_some, Option.map_none, b2, hb']
  simp only [bnd]
  rw [if_pos (by omega), List.append_assoc]
  by_cases h : n = 0
  · subst h
    rw [if_neg (by omega)]
    simp [hk, tailV]
  · rw [if_pos (by omega)]
    simp [tailV, h]
end
end Go.Proofs.Ytajpngnphbdnnaa.Abs
namespace Go.Proofs.Ytajpngnphbdnnaa.Abs
open Go.RowKit
open Go.Proofs.Ytajpngnphbdnnaa.Sim
/-- A value that names old blocks alone. -/
def Low (N : Nat) (v : Value) : Prop := ∀ (ρ : Nat → Nat) (n : Nat), (∀ i, i < N → ρ i = i) → N ≤ n → Ren ρ n v v
theorem Low.ptr {N a o : Nat} (h : a < N) : Low N (.pointer (some ⟨a, o, none⟩)) := fun ρ n hρ hn => by
  have := Ren.ptr (ρ := ρ) (n := n) a o (by omega)
  rwa [hρ a h] at this
theorem Low.slice {N a o l c : Nat} (h : a < N) : Low N (.slice (some ⟨a, o, none⟩) l c) := fun ρ n hρ hn => by
  have := Ren.slice (ρ := ρ) (n := n) a o l c (by omega)
  rwa [hρ a h] at this
theorem Low.spot {N a o k : Nat} (h : a < N) : Low N (.slice (some ⟨a, o, some k⟩) 0 0) := fun ρ n hρ hn => by
  have := Ren.sliceSpot (ρ := ρ) (n := n) a o k (by omega)
  rwa [hρ a h] at this
theorem Low.of_sl {N a o k : Nat} {v : Value} (h : Sl v a o k) (ha : a < N) : Low N v := by
  rcases h with ⟨rfl, _⟩ | ⟨c, _, rfl⟩ | ⟨_, o', k', rfl⟩
  · exact fun _ _ _ _ => .sliceNil
  · exact .slice ha
  · exact .spot ha
theorem Low.func {N : Nat} {fn : Fn} {c : List Value} (h : ∀ v ∈ c, Low N v) : Low N (.func fn #[] c.toArray) := fun ρ n hρ hn => by
  refine .func fn #[] c.toArray #[] c.toArray rfl (fun i hi => by simp at hi) rfl fun i hi => ?_
  have hi' : i < c.length := by simpa using hi
  have := h c[i] (List.getElem_mem hi') ρ n hρ hn
  simpa [hi'] using this
theorem Low.rid {N n : Nat} {v : Value} (h : Low N v) (hn : N ≤ n) : Ren rid n v v := h _ _ (fun _ _ => rfl) hn
theorem Low.sg {N n : Nat} {σ : List Nat} {v : Value} (h : Low N v) (hn : N ≤ n) : Ren (sg N σ) n v v := h _ _ (fun _ hi => sg_old hi) hn
theorem Low.ne {N n p q : Nat} {v : Value} (h : Low N v) (hn : N ≤ n) : Ren (fun i => if i = N + p then N + q else i) n v v := h _ _ (fun _ hi => if_neg (by omega)) hn
end Go.Proofs.Ytajpngnphbdnnaa.Abs
namespace Go.Proofs.Ytajpngnphbdnnaa.Abs
set_option linter.unusedSimpArgs false
set_option linter.unusedVariables false
open Go.RowKit
open Go.Proofs.Ytajpngnphbdnnaa.Sim
open Go.ChangeShapes Go.WideShapes Go.Deep
/-- An argument with the cells that it shows. -/
abbrev AR := Value × List Value
def Okarg (W : World) (a : AR) : Prop := g0 a.1 = true ∨ ∃ b o n cap, a.1 = .slice (some ⟨b, o, none⟩) n cap ∧ n ≤ cap ∧ b < W.heap.size ∧ (∀ j x, a.2[j]? = some x → W.cell? ⟨b, o + j, none⟩ = some x) ∧ ∀ x ∈ a.2, g0 x = true
def mkV (i : Nat) : Value → Value
  | .slice (some _) n _ => .slice (some ⟨i, 0, none⟩) n n
  | v => v
def mkP : AR → Option Sim.Place
  | (.slice (some a) n cap, _) => some ⟨a.block, a.off, cap - n⟩
  | _ => none
def mkB : AR → Option Blk
  | (.slice (some _) _ _, c) => some { cells := c, kind := .ro }
  | _ => none
def mkVs : Nat → List AR → List Value
  | _, [] => []
  | i, a :: l => mkV i a.1 :: mkVs (i + 1) l
theorem mkVs_get : ∀ (l : List AR) (i k : Nat), (mkVs i l)[k]? = (l[k]?).map fun a => mkV (i + k) a.1
  | [], i, k => by simp [mkVs]
  | a :: l, i, 0 => by simp [mkVs]
  | a :: l, i, k + 1 => by simp only [mkVs, List.getElem?_cons_succ, mkVs_get l (i + 1) k]; congr 1; funext x; congr 1; omega
theorem mkVs_len : ∀ (l : List AR) (i : Nat), (mkVs i l).length = l.length
  | [], _ => rfl
  | a :: l, i => by simp [mkVs, mkVs_len l (i + 1)]
section
variable {H : Type} {enc : TypeId × Value → H} {P : Program} {w : World} {base : Nat} {spare : Nat → Bool} {held : Bool}
theorem ok_slice {r : Reach} {b0 : Nat} {T e : TypeId} {a : Option Addr} {n c : Nat} (ht : P.underlying T = some (.slice e)) (h : Value.okWide P w r b0 T (.slice a n c)) : (a = none ∧ n = 0 ∧ c = 0) ∨ ∃ b o, a = some ⟨b, o, none⟩ ∧ n ≤ c ∧ b < w.heap.size := by
  simp only [Value.okWide, ht, Cell.okWide, Cell.ok] at h
  cases a with
  | none =>
    cases n <;> cases c <;> simp_all
  | some x =>
    obtain ⟨h1, _, h3⟩ := h
    obtain ⟨_, hs, row, cells, hsh, _⟩ := h3
    obtain ⟨b, o, s⟩ := x
    simp only at hs
    subst hs
    refine .inr ⟨b, o, rfl, h1, ?_⟩
    simp only [World.shape?] at hsh
    rcases Nat.lt_or_ge b w.heap.size with hlt | hge
    · exact hlt
    · rw [Array.getElem?_eq_none hge] at hsh; cases hsh
theorem open_slice_fields {t e : TypeId} {fs : Array Field} {fuel : Nat} {cs : List Value} {x : DataW H × List MemPlace} (ht : P.underlying t = some (.slice e)) (he : P.underlying e = some (.struct fs))
    (hone : oneCellFields P fs = true) (hC : P.cellsOf e = fs.size) (h : DataW.trod enc P w base spare held fuel t cs = some x) :
    (cs = [.slice none 0 0] ∧ x = (.nil, [])) ∨
    ∃ (a : Addr) (len cap m : Nat) (D : Nat → DataW H) (Pl : Nat → List MemPlace), cs = [.slice (some a) len cap] ∧ base ≤ a.block ∧ len ≤ cap ∧ cap ≤ maxLen ∧ m = (if spare a.block then cap else len) ∧
      x = (.slice ((List.range len).map D) ((List.range (m - len)).map fun j => D (len + j)), MemPlace.row a (m * fs.size) ++ (List.range m).flatMap Pl) ∧
      ∀ i, i < m → ∃ (ys : List (DataW H × List MemPlace)) (n : Nat), D i = .agg (ys.map (·.1)) ∧ Pl i = ys.flatMap (·.2) ∧ ys.length = fs.size ∧
        ∀ (j : Nat) (f : Field), fs[j]? = some f → ∃ (v : Value) (y : DataW H × List MemPlace), w.cell? (a.add (i * fs.size + j)) = some v ∧ ys[j]? = some y ∧ DataW.trod enc P w base spare held n f.type [v] = some y := by
  rcases open_slice ht h with h0 | ⟨a, len, cap, m, n, D, Pl, hcs, hb, hl, hm, hmm, hx, hi⟩
  · exact .inl h0
  · refine .inr ⟨a, len, cap, m, D, Pl, hcs, hb, hl, hm, hmm, by rw [hC] at hx; exact hx, fun i him => ?_⟩
    obtain ⟨cs', hc, ht'⟩ := hi i him
    rw [hC] at hc
    obtain ⟨ys, n', hn', hy, hlen, hyl, hf⟩ := DataW.trod_struct he ht'
    obtain ⟨_, hcl, hat⟩ := World.cells?_some hc
    simp only [Prod.mk.injEq] at hy
    refine ⟨ys, n', hy.1, hy.2, hyl, fun j f hj => ?_⟩
    obtain ⟨ho, hk⟩ := hone_of hone j f hj
    have hjl : j < fs.size := (Array.getElem?_eq_some_iff.1 hj).1
    have hcell := hat j hjl
    have hv : cs'[j]? = some (cs'[j]'(by omega)) := List.getElem?_eq_getElem (by omega)
    have h1 := hf j f hj
    rw [ho, hk] at h1
    have hone' : (cs'.drop j).take 1 = [cs'[j]'(by omega)] := by
      rw [List.drop_eq_getElem_cons (by omega)]
      rfl
    rw [hone'] at h1
    have hys : ys[j]? = some (ys[j]'(by omega)) := List.getElem?_eq_getElem (by omega)
    refine ⟨_, _, ?_, hys, h1.trans hys⟩
    rw [← Go.Deep.add_add, hcell, hv]
theorem fields_int {fs : Array Field} (h : fs.all (fun f => match P.underlying f.type with | some (.int .i64) => true | _ => false) = true) {j : Nat} {f : Field} (hj : fs[j]? = some f) : P.underlying f.type = some (.int .i64) := by
  have := Array.all_eq_true'.1 h f (Array.mem_of_getElem? hj)
  split at this
  · assumption
  · cases this
/-- A slice of structs of ints ars an argument. -/
theorem arg_rows {r : Reach} {b0 : Nat} {T e : TypeId} {fs : Array Field} {a : Option Addr} {n c : Nat} {d : DataW H} {p : List MemPlace} (ht : P.underlying T = some (.slice e)) (he : P.underlying e = some (.struct fs)) (hone : oneCellFields P fs = true) (hC : P.cellsOf e = fs.size)
    (hi : fs.all (fun f => match P.underlying f.type with | some (.int .i64) => true | _ => false) = true) (hok : Value.okWide P w r b0 T (.slice a n c)) (h : DataW.Trod enc P w base spare held T (.slice a n c) d p) :
    ∃ F : Nat → List Int, (∀ k, (F k).length = fs.size) ∧ n ≤ maxLen ∧ Okarg w (.slice a n c, (List.range n).flatMap fun k => iv (F k)) ∧ (∀ M : AM, ∀ i, M[i]? = some (mkB (.slice a n c, (List.range n).flatMap fun k => iv (F k))) → Sl (mkV i (.slice a n c)) i 0 n ∧ i < M.length ∧ ∀ k, k < n → RdL M i (0 + k * fs.size) (iv (F k))) := by
  obtain ⟨fuel, h⟩ := h
  rcases ok_slice ht hok with ⟨rfl, rfl, rfl⟩ | ⟨b, o, rfl, hle, hlt⟩
  · exact ⟨fun _ => List.replicate fs.size 0, fun _ => by simp, by unfold maxLen; omega, .inl rfl, fun M i hi => ⟨.inl ⟨rfl, rfl⟩, (List.getElem?_eq_some_iff.1 hi).1, fun k hk => by omega⟩⟩
  · rcases open_slice_fields ht he hone hC h with ⟨hcs, _⟩ | ⟨x, l, cap, m, D, Pl, hcs, _, hl, hm, hmm, _, hrow⟩
    · simp [Value.cells] at hcs
    · simp [Value.cells] at hcs
      obtain ⟨rfl, rfl, rfl⟩ := hcs
      have key : ∀ k : Nat, ∃ q : List Int, q.length = fs.size ∧ (k < n → ∀ j, j < fs.size → w.cell? ⟨b, o + (k * fs.size + j), none⟩ = some (.int .i64 (q.getD j 0))) := fun k => by
        by_cases hk : k < n
        · obtain ⟨ys, nn, _, _, _, hf⟩ := hrow k (by rw [hmm]; split <;> omega)
          have key2 : ∀ j : Nat, ∃ z : Int, j < fs.size → w.cell? ⟨b, o + (k * fs.size + j), none⟩ = some (.int .i64 z) := fun j => by
            by_cases hj : j < fs.size
            · obtain ⟨v, y, h1, _, h3⟩ := hf j fs[j] (Array.getElem?_eq_getElem hj)
              obtain ⟨z, hz, _⟩ := DataW.trod_int (fields_int hi (Array.getElem?_eq_getElem hj)) h3
              simp at hz
              subst hz
              rw [Addr.add_lit] at h1
              exact ⟨z, fun _ => h1⟩
            · exact ⟨0, fun h => absurd h hj⟩
          obtain ⟨g, hg⟩ := Classical.axiomOfChoice key2
          refine ⟨(List.range fs.size).map g, by simp, fun _ j hj => ?_⟩
          rw [hg j hj]
          simp [hj]
        · exact ⟨List.replicate fs.size 0, by simp, fun h => absurd h hk⟩
      obtain ⟨F, hF⟩ := Classical.axiomOfChoice key
      have hlenF : ∀ k, (iv (F k)).length = fs.size := fun k => by rw [iv_len]; exact (hF k).1
      have get : ∀ q, ∀ k, k < q → ∀ j v, (iv (F k))[j]? = some v → ((List.range q).flatMap fun k => iv (F k))[k * fs.size + j]? = some v := by
        intro q
        induction q with
        | zero => intro k hk; omega
        | succ q ih =>
          intro k hk j v hj
          have hjl : j < fs.size := by
            have := (List.getElem?_eq_some_iff.1 hj).1
            rwa [hlenF] at this
          have hql : ((List.range q).flatMap fun k => iv (F k)).length = q * fs.size := by
            clear ih hk hj
            induction q with
            | zero => simp
            | succ q ih2 => rw [List.range_succ, List.flatMap_append, List.length_append, ih2]; simp [hlenF, Nat.add_mul]
          rw [List.range_succ, List.flatMap_append]
          rcases Nat.lt_succ_iff_lt_or_eq.1 hk with h' | h'
          · have h2 : k * fs.size + fs.size ≤ q * fs.size := by
              have := Nat.mul_le_mul_right fs.size (show k + 1 ≤ q by omega)
              rw [Nat.add_mul] at this; omega
            rw [List.getElem?_append_left (by rw [hql]; omega)]
            exact ih k h' j v hj
          · subst h'
            rw [List.getElem?_append_right (by rw [hql]; omega), hql, Nat.add_sub_cancel_left]
            simpa using hj
      have tot : ∀ q, ((List.range q).flatMap fun k => iv (F k)).length = q * fs.size := fun q => by
        induction q with
        | zero => simp
        | succ q ih2 => rw [List.range_succ, List.flatMap_append, List.length_append, ih2]; simp [hlenF, Nat.add_mul]
      refine ⟨F, fun k => (hF k).1, by omega, .inr ⟨b, o, n, c, rfl, hle, hlt, fun j x hj => ?_, fun x hx => ?_⟩, fun M i hM => ?_⟩
      · have hjl := (List.getElem?_eq_some_iff.1 hj).1
        simp only at hjl hj
        rw [tot] at hjl
        have hs : 0 < fs.size := by
          rcases Nat.eq_zero_or_pos fs.size with h0 | h0
          · rw [h0] at hjl; omega
          · exact h0
        have hk : j / fs.size < n := (Nat.div_lt_iff_lt_mul hs).2 hjl
        have hr : j % fs.size < fs.size := Nat.mod_lt _ hs
        have e : j = j / fs.size * fs.size + j % fs.size := by rw [Nat.mul_comm]; exact (Nat.div_add_mod j fs.size).symm
        have h1 := get n (j / fs.size) hk (j % fs.size) (.int .i64 ((F (j / fs.size)).getD (j % fs.size) 0)) (iv_get (by rw [(hF _).1]; exact hr))
        rw [← e] at h1
        rw [h1] at hj
        injection hj with hj
        have h2 := (hF (j / fs.size)).2 hk (j % fs.size) hr
        rw [← e] at h2
        rw [h2, hj]
      · obtain ⟨k, _, hk⟩ := List.mem_flatMap.1 hx
        exact g0_iv _ x hk
      · simp only [mkB] at hM
        refine ⟨Sl.mk (Nat.le_refl _), (List.getElem?_eq_some_iff.1 hM).1, fun k hk => ⟨_, hM, fun j v hj => ?_⟩⟩
        rw [Nat.zero_add]
        exact get n k hk j v hj
end
end Go.Proofs.Ytajpngnphbdnnaa.Abs
namespace Go.Proofs.Ytajpngnphbdnnaa.Hung
set_option linter.unusedSimpArgs false
set_option linter.unusedVariables false
/-- The sum of the first n. -/
def sN (f : Nat → Int) : Nat → Int
  | 0 => 0
  | n + 1 => sN f n + f n
theorem sN_congr {f g : Nat → Int} : ∀ {n : Nat}, (∀ i, i < n → f i = g i) → sN f n = sN g n
  | 0, _ => rfl
  | n + 1, h => by rw [sN, sN, sN_congr fun i hi => h i (by omega), h n (by omega)]
theorem sN_le {f g : Nat → Int} : ∀ {n : Nat}, (∀ i, i < n → f i ≤ g i) → sN f n ≤ sN g n
  | 0, _ => Int.le_refl _
  | n + 1, h => by have := sN_le (n := n) fun i hi => h i (by omega); have := h n (by omega); simp only [sN]; omega
theorem sN_add (f g : Nat → Int) : ∀ n, sN (fun i => f i + g i) n = sN f n + sN g n
  | 0 => rfl
  | n + 1 => by simp only [sN]; rw [sN_add f g n]; omega
theorem sN_sub (f g : Nat → Int) : ∀ n, sN (fun i => f i - g i) n = sN f n - sN g n
  | 0 => rfl
  | n + 1 => by simp only [sN]; rw [sN_sub f g n]; omega
theorem sN_const (c : Int) : ∀ n : Nat, sN (fun _ => c) n = c * n
  | 0 => by simp [sN]
  | n + 1 => by simp only [sN]; rw [sN_const c n]; simp [Int.mul_add]
theorem sN_nonneg {f : Nat → Int} {n : Nat} (h : ∀ i, i < n → 0 ≤ f i) : 0 ≤ sN f n := by
  have := sN_le (f := fun _ => 0) (g := f) h
  rw [sN_const] at this; omega
theorem sN_ext {f : Nat → Int} {n : Nat} : ∀ {m : Nat}, n ≤ m → (∀ i, n ≤ i → i < m → f i = 0) → sN f m = sN f n
  | 0, h, _ => by obtain rfl : n = 0 := by omega
                  rfl
  | m + 1, h, hz => by
    rcases Nat.lt_or_ge n (m + 1) with hlt | hge
    · rw [sN, hz m (by omega) (by omega), Int.add_zero]
      exact sN_ext (by omega) fun i h1 h2 => hz i h1 (by omega)
    · obtain rfl : n = m + 1 := by omega
      rfl
/-- One of the values is another. -/
def up {α : Type} (f : Nat → α) (k : Nat) (x : α) : Nat → α := fun i => if i = k then x else f i
theorem up_same {α : Type} (f : Nat → α) (k : Nat) (x : α) : up f k x k = x := if_pos rfl
theorem up_ne {α : Type} (f : Nat → α) {k i : Nat} (x : α) (h : i ≠ k) : up f k x i = f i := if_neg h
theorem sN_up (f : Nat → Int) (k : Nat) (x : Int) : ∀ n, sN (up f k x) n = sN f n + if k < n then x - f k else 0
  | 0 => by simp [sN]
  | n + 1 => by
    simp only [sN]
    rw [sN_up f k x n]
    by_cases e : n = k
    · subst e; rw [up_same, if_neg (by omega), if_pos (by omega)]; omega
    · rw [up_ne _ _ e]
      by_cases h : k < n
      · rw [if_pos h, if_pos (by omega)]; omega
      · rw [if_neg h, if_neg (by omega)]; omega
/-- A pairing of l left ones with r right ones: r or more stands for none. -/
def Pr (l r : Nat) (p : Nat → Nat) : Prop := ∀ i i', i < l → i' < l → p i < r → p i = p i' → i = i'
def tot (w : Nat → Nat → Int) (r : Nat) (p : Nat → Nat) (l : Nat) : Int := sN (fun i => if p i < r then w i (p i) else 0) l
def IsMax (w : Nat → Nat → Int) (l r : Nat) (best : Int) : Prop := (∃ p, Pr l r p ∧ tot w r p l = best) ∧ ∀ p, Pr l r p → tot w r p l ≤ best
/-- What is met, is met once. -/
theorem met_le {r : Nat} {p : Nat → Nat} : ∀ (l : Nat) (b : Nat → Int), Pr l r p → (∀ q, q < r → 0 ≤ b q) → sN (fun i => if p i < r then b (p i) else 0) l ≤ sN b r
  | 0, b, _, hb => sN_nonneg hb
  | l + 1, b, hp, hb => by
    simp only [sN]
    by_cases h : p l < r
    · have ih := met_le l (up b (p l) 0) (fun i i' h1 h2 => hp i i' (by omega) (by omega)) fun q hq => by
        by_cases e : q = p l
        · rw [e, up_same]; exact Int.le_refl _
        · rw [up_ne _ _ e]; exact hb q hq
      rw [sN_up, if_pos h] at ih
      have e : sN (fun i => if p i < r then up b (p l) 0 (p i) else 0) l = sN (fun i => if p i < r then b (p i) else 0) l := sN_congr fun i hi => by
        split
        · rename_i h1
          rw [up_ne _ _ fun e => by have := hp i l (by omega) (by omega) h1 e; omega]
        · rfl
      rw [e] at ih
      rw [if_pos h]
      omega
    · rw [if_neg h]
      have := met_le l b (fun i i' h1 h2 => hp i i' (by omega) (by omega)) hb
      omega
/-- All are met. -/
theorem met_eq {n : Nat} {p : Nat → Nat} (hp : Pr n n p) (hn : ∀ i, i < n → p i < n) (b : Nat → Int) (hb : ∀ q, q < n → 0 ≤ b q) : sN (fun i => b (p i)) n = sN b n := by
  have h1 := met_le n b hp hb
  have e1 : sN (fun i => if p i < n then b (p i) else 0) n = sN (fun i => b (p i)) n := sN_congr fun i hi => if_pos (hn i hi)
  rw [e1] at h1
  have hB : ∀ m, m ≤ n → ∃ B : Int, ∀ q, q < m → b q ≤ B := by
    intro m
    induction m with
    | zero => exact fun _ => ⟨0, fun q hq => by omega⟩
    | succ m ih =>
      intro hm
      obtain ⟨B, hB⟩ := ih (by omega)
      refine ⟨max B (b m), fun q hq => ?_⟩
      by_cases e : q = m
      · subst e; omega
      · have := hB q (by omega); omega
  obtain ⟨B, hB⟩ := hB n (Nat.le_refl _)
  have h2 := met_le n (fun q => B - b q) hp (fun q hq => by have := hB q hq; show 0 ≤ B - b q; omega)
  have e2 : sN (fun i => if p i < n then B - b (p i) else 0) n = sN (fun i => B - b (p i)) n := sN_congr fun i hi => if_pos (hn i hi)
  rw [e2, sN_sub (fun _ => B) (fun i => b (p i)), sN_sub (fun _ => B) b] at h2
  omega
structure Dual (w : Nat → Nat → Int) (l r : Nat) (a b : Nat → Int) : Prop where
  na : ∀ i, i < l → 0 ≤ a i
  nb : ∀ q, q < r → 0 ≤ b q
  fe : ∀ i q, i < l → q < r → w i q ≤ a i + b q
theorem Dual.bound {w : Nat → Nat → Int} {l r : Nat} {a b : Nat → Int} (h : Dual w l r a b) {p : Nat → Nat} (hp : Pr l r p) : tot w r p l ≤ sN a l + sN b r := by
  have h1 := met_le l b hp h.nb
  have h2 : tot w r p l ≤ sN (fun i => a i + if p i < r then b (p i) else 0) l := sN_le fun i hi => by
    split
    · rename_i hq; exact h.fe i _ hi hq
    · have := h.na i hi; omega
  rw [sN_add] at h2
  omega
theorem Dual.max {w : Nat → Nat → Int} {l r : Nat} {a b : Nat → Int} (h : Dual w l r a b) {p : Nat → Nat} (hp : Pr l r p) (he : tot w r p l = sN a l + sN b r) : IsMax w l r (sN a l + sN b r) :=
  ⟨⟨p, hp, he⟩, fun _ hq => h.bound hq⟩
/-- Different ones out of few are few. -/
theorem nodup_le {l k : List Nat} (h : l.Nodup) (hs : ∀ x ∈ l, x ∈ k) : l.length ≤ k.length := by
  induction l generalizing k with
  | nil => simp
  | cons x l ih =>
    obtain ⟨n1, n2⟩ := List.nodup_cons.1 h
    have hx := hs x (List.mem_cons_self ..)
    have := ih (k := k.erase x) n2 fun y hy => by
      have hne : y ≠ x := fun e => n1 (e ▸ hy)
      exact (List.mem_erase_of_ne hne).2 (hs y (List.mem_cons_of_mem _ hy))
    rw [List.length_erase_of_mem hx] at this
    have : 0 < k.length := List.length_pos_of_mem hx
    simp only [List.length_cons]; omega
end Go.Proofs.Ytajpngnphbdnnaa.Hung
namespace Go.Proofs.Ytajpngnphbdnnaa.Hung
set_option linter.unusedSimpArgs false
set_option linter.unusedVariables false
/-- The columns in the order in which they were taken, the last one first: each hangs by a tight edge on one before it. -/
inductive Ch (loss : Nat → Nat → Int) (u v : Nat → Int) (row way : Nat → Nat) : List Nat → Prop
  | base : Ch loss u v row way [0]
  | step (k : Nat) (l : List Nat) (h0 : k ≠ 0) (hw : way k ∈ l) (hr : row (way k) ≠ 0) (ht : u (row (way k)) + v k = loss (row (way k)) k) (hk : k ∉ l) (h : Ch loss u v row way l) : Ch loss u v row way (k :: l)
section
variable {loss : Nat → Nat → Int} {u v u' v' least : Nat → Int} {row way row' way' : Nat → Nat} {used : Nat → Bool} {l rest : List Nat} {n i j : Nat} {V0 : Int}
theorem Ch.zero (h : Ch loss u v row way l) : 0 ∈ l := by
  induction h with
  | base => simp
  | step k l _ _ _ _ _ _ ih => exact List.mem_cons_of_mem _ ih
theorem Ch.one (h : Ch loss u v row way [j]) : j = 0 := by
  cases h with
  | base => rfl
  | step _ _ _ hw => simp at hw
theorem Ch.sub (h : Ch loss u v row way l) {x : Nat} (hx : x ∈ l) : ∃ l', Ch loss u v row way (x :: l') ∧ (∀ y ∈ x :: l', y ∈ l) ∧ l'.length < l.length := by
  induction h with
  | base =>
    obtain rfl : x = 0 := by simpa using hx
    exact ⟨[], .base, fun y h => h, by simp⟩
  | step k l h0 hw hr ht hk h ih =>
    by_cases e : x = k
    · subst e
      exact ⟨l, .step x l h0 hw hr ht hk h, fun y h => h, by simp⟩
    · have hx' : x ∈ l := by
        rcases List.mem_cons.1 hx with h | h
        · exact absurd h e
        · exact h
      obtain ⟨l', a, b, c⟩ := ih hx'
      exact ⟨l', a, fun y h => List.mem_cons_of_mem _ (b y h), by simp; omega⟩
theorem Ch.congr (h : Ch loss u v row way l) (hc : ∀ k ∈ l, k ≠ 0 → way k ∈ l → way' k = way k ∧ row' (way k) = row (way k) ∧ u' (row (way k)) + v' k = u (row (way k)) + v k) : Ch loss u' v' row' way' l := by
  induction h with
  | base => exact .base
  | step k l h0 hw hr ht hk h ih =>
    obtain ⟨a, b, c⟩ := hc k (List.mem_cons_self ..) h0 (List.mem_cons_of_mem _ hw)
    exact .step k l h0 (by rw [a]; exact hw) (by rw [a, b]; exact hr) (by rw [a, b, c]; exact ht) hk (ih fun x hx h0 h1 => hc x (List.mem_cons_of_mem _ hx) h0 (List.mem_cons_of_mem _ h1))
structure Iv (loss : Nat → Nat → Int) (n i : Nat) (V0 : Int) (u v : Nat → Int) (row way : Nat → Nat) (least : Nat → Int) (used : Nat → Bool) (j : Nat) (rest : List Nat) : Prop where
  ch : Ch loss u v row way (j :: rest)
  us : ∀ k, k ≤ n → used k = decide (k ∈ rest)
  jn : j ≤ n
  rn : ∀ k ∈ rest, k ≤ n ∧ row k ≠ 0
  i1 : 1 ≤ i
  r0 : row 0 = i
  rb : ∀ k, k ≤ n → row k ≤ i
  inj : ∀ a b, a ≤ n → b ≤ n → row a = row b → row a ≠ 0 → a = b
  sur : ∀ r, 1 ≤ r → r ≤ i → ∃ a, a ≤ n ∧ row a = r
  fe : ∀ r k, 1 ≤ r → r ≤ i → 1 ≤ k → k ≤ n → (rest = [] → r ≠ i) → u r + v k ≤ loss r k
  ti : ∀ k, 1 ≤ k → k ≤ n → row k ≠ 0 → u (row k) + v k = loss (row k) k
  vn : ∀ k, 1 ≤ k → k ≤ n → v k ≤ 0 ∧ (row k = 0 → v k = 0)
  uz : ∀ r, i < r → u r = 0
  ui : rest = [] → u i = 0
  ul : -1000000000 ≤ u i
  l0 : rest = [] → ∀ k, 1 ≤ k → k ≤ n → least k = 1152921504606846976
  l1 : ∀ k, 1 ≤ k → k ≤ n → k ∉ rest → rest ≠ [] → (∀ c ∈ rest, least k ≤ loss (row c) k - u (row c) - v k) ∧ way k ∈ rest ∧ least k = loss (row (way k)) k - u (row (way k)) - v k
  v0 : v 0 = V0 - u i
def Ls (loss : Nat → Nat → Int) (n : Nat) : Prop := ∀ r k, 1 ≤ r → r ≤ n → 1 ≤ k → k ≤ n → -1000000000 ≤ loss r k ∧ loss r k ≤ 0
theorem Iv.rest0 (h : Iv loss n i V0 u v row way least used j rest) (he : rest = []) : j = 0 := by
  have := h.ch
  rw [he] at this
  exact this.one
theorem Iv.free (h : Iv loss n i V0 u v row way least used j rest) (hin : i ≤ n) : ∃ f, 1 ≤ f ∧ f ≤ n ∧ row f = 0 := by
  apply Classical.byContradiction
  intro hno
  have hnz : ∀ f, 1 ≤ f → f ≤ n → row f ≠ 0 := fun f h1 h2 e => hno ⟨f, h1, h2, e⟩
  have hl := nodup_le (l := (List.range' 1 n).map row) (k := List.range' 1 (i - 1)) (by
    rw [List.Nodup, List.pairwise_map]
    refine (List.nodup_range' (s := 1) (n := n)).imp_of_mem fun {a b} ha hb hab e => hab ?_
    simp only [List.mem_range'_1] at ha hb
    exact h.inj a b (by omega) (by omega) e (hnz a (by omega) (by omega))) fun x hx => by
      obtain ⟨k, hk, rfl⟩ := List.mem_map.1 hx
      simp only [List.mem_range'_1] at hk ⊢
      have h1 := hnz k (by omega) (by omega)
      have h2 := h.rb k (by omega)
      have h3 : row k ≠ i := fun e => by
        have := h.inj k 0 (by omega) (by omega) (by rw [h.r0, e]) h1
        omega
      omega
  simp at hl
  have := h.i1
  omega
/-- The potentials are small. -/
theorem Iv.bu (h : Iv loss n i V0 u v row way least used j rest) (hin : i ≤ n) (hl : Ls loss n) {r : Nat} (h1 : 1 ≤ r) (h2 : r ≤ i) : -1000000000 ≤ u r ∧ u r ≤ 0 := by
  by_cases e : rest = [] ∧ r = i
  · rw [e.2, h.ui e.1]; omega
  · obtain ⟨f, f1, f2, f3⟩ := h.free hin
    have a := h.fe r f h1 h2 f1 f2 (fun hr hri => e ⟨hr, hri⟩)
    have b := (h.vn f f1 f2).2 f3
    have c := hl r f h1 (by omega) f1 f2
    refine ⟨?_, by omega⟩
    by_cases hri : r = i
    · rw [hri]; exact h.ul
    · obtain ⟨k, k1, k2⟩ := h.sur r h1 h2
      have k0 : k ≠ 0 := fun e => by rw [e, h.r0] at k2; exact hri k2.symm
      have t := h.ti k (by omega) k1 (by omega)
      rw [k2] at t
      have := (h.vn k (by omega) k1).1
      have := hl r k h1 (by omega) (by omega) k1
      omega
theorem Iv.bv (h : Iv loss n i V0 u v row way least used j rest) (hin : i ≤ n) (hl : Ls loss n) {k : Nat} (h1 : 1 ≤ k) (h2 : k ≤ n) : -1000000000 ≤ v k ∧ v k ≤ 0 := by
  have hv := h.vn k h1 h2
  refine ⟨?_, hv.1⟩
  by_cases e : row k = 0
  · rw [hv.2 e]; omega
  · have t := h.ti k h1 h2 e
    have := (h.bu hin hl (r := row k) (by omega) (h.rb k h2)).2
    have := hl (row k) k (by omega) (by have := h.rb k h2; omega) h1 h2
    omega
def dK (loss : Nat → Nat → Int) (u v : Nat → Int) (r : Nat) : Nat → Int := fun k => loss r k - u r - v k
def tk (d least : Nat → Int) (used : Nat → Bool) (m k : Nat) : Prop := 1 ≤ k ∧ k ≤ m ∧ used k = false ∧ d k < least k
instance (d least : Nat → Int) (used : Nat → Bool) (m k : Nat) : Decidable (tk d least used m k) := by unfold tk; infer_instance
def lS (d least : Nat → Int) (used : Nat → Bool) (m : Nat) : Nat → Int := fun k => if tk d least used m k then d k else least k
def wS (d least : Nat → Int) (used : Nat → Bool) (j : Nat) (way : Nat → Nat) (m : Nat) : Nat → Nat := fun k => if tk d least used m k then j else way k
def dS (L : Nat → Int) (used : Nat → Bool) : Nat → Int × Nat
  | 0 => (1152921504606846976, 0)
  | m + 1 => if used (m + 1) = false ∧ L (m + 1) < (dS L used m).1 then (L (m + 1), m + 1) else dS L used m
theorem dS_spec (L : Nat → Int) (used : Nat → Bool) : ∀ m, (∀ k, 1 ≤ k → k ≤ m → used k = false → (dS L used m).1 ≤ L k) ∧ (dS L used m = (1152921504606846976, 0) ∨ (1 ≤ (dS L used m).2 ∧ (dS L used m).2 ≤ m ∧ used (dS L used m).2 = false ∧ (dS L used m).1 = L (dS L used m).2))
  | 0 => ⟨fun k h1 h2 => by omega, .inl rfl⟩
  | m + 1 => by
    obtain ⟨i1, i2⟩ := dS_spec L used m
    simp only [dS]
    split
    · rename_i h
      refine ⟨fun k h1 h2 hu => ?_, .inr ⟨by simp, by simp, h.1, rfl⟩⟩
      by_cases e : k = m + 1
      · subst e; exact Int.le_refl _
      · have := i1 k h1 (by omega) hu
        have := h.2
        show L (m + 1) ≤ L k
        omega
    · rename_i h
      refine ⟨fun k h1 h2 hu => ?_, ?_⟩
      · by_cases e : k = m + 1
        · subst e
          have : ¬ L (m + 1) < (dS L used m).1 := fun h2 => h ⟨hu, h2⟩
          omega
        · exact i1 k h1 (by omega) hu
      · rcases i2 with i2 | ⟨a, b, c, d⟩
        · exact .inl i2
        · exact .inr ⟨a, by omega, c, d⟩
/-- What a scan finds. -/
structure Sc (loss : Nat → Nat → Int) (n i : Nat) (u v : Nat → Int) (row wy : Nat → Nat) (L : Nat → Int) (used : Nat → Bool) (dl : Int) (nx : Nat) (T : List Nat) : Prop where
  ok : ∀ k, 1 ≤ k → k ≤ n → k ∉ T → (∀ c ∈ T, L k ≤ loss (row c) k - u (row c) - v k) ∧ wy k ∈ T ∧ L k = loss (row (wy k)) k - u (row (wy k)) - v k ∧ -1000000000 ≤ L k ∧ L k ≤ 3 * 1000000000
  n1 : 1 ≤ nx
  n2 : nx ≤ n
  nn : nx ∉ T
  de : dl = L nx
  low : ∀ k, 1 ≤ k → k ≤ n → k ∉ T → dl ≤ L k
theorem Iv.used' (h : Iv loss n i V0 u v row way least used j rest) {k : Nat} (hk : k ≤ n) : up used j true k = decide (k ∈ j :: rest) := by
  by_cases e : k = j
  · subst e; rw [up_same]; simp
  · rw [up_ne _ _ e, h.us k hk]; simp [e]
theorem Iv.scan (h : Iv loss n i V0 u v row way least used j rest) (hin : i ≤ n) (hl : Ls loss n) (hr : row j ≠ 0) :
    Sc loss n i u v row (wS (dK loss u v (row j)) least (up used j true) j way n) (lS (dK loss u v (row j)) least (up used j true) n) (up used j true)
      (dS (lS (dK loss u v (row j)) least (up used j true) n) (up used j true) n).1 (dS (lS (dK loss u v (row j)) least (up used j true) n) (up used j true) n).2 (j :: rest) := by
  have hus := fun k hk => h.used' (k := k) hk
  have hrow := fun c (hc : c ∈ j :: rest) => show 1 ≤ row c ∧ row c ≤ i from by
    rcases List.mem_cons.1 hc with rfl | hc
    · exact ⟨by omega, h.rb _ h.jn⟩
    · exact ⟨by have := (h.rn c hc).2; omega, h.rb _ (h.rn c hc).1⟩
  have ok : ∀ k, 1 ≤ k → k ≤ n → k ∉ j :: rest → (∀ c ∈ j :: rest, lS (dK loss u v (row j)) least (up used j true) n k ≤ loss (row c) k - u (row c) - v k) ∧ wS (dK loss u v (row j)) least (up used j true) j way n k ∈ j :: rest ∧
      lS (dK loss u v (row j)) least (up used j true) n k = loss (row (wS (dK loss u v (row j)) least (up used j true) j way n k)) k - u (row (wS (dK loss u v (row j)) least (up used j true) j way n k)) - v k := by
    intro k k1 k2 hk
    have hu : up used j true k = false := by rw [hus k k2]; simpa using hk
    have hd : dK loss u v (row j) k = loss (row j) k - u (row j) - v k := rfl
    have bj := hrow j (List.mem_cons_self ..)
    have b1 := h.bu hin hl bj.1 bj.2
    have b2 := h.bv hin hl k1 k2
    have b3 := hl (row j) k bj.1 (by omega) k1 k2
    unfold lS wS
    by_cases hlt : dK loss u v (row j) k < least k
    · rw [if_pos ⟨k1, k2, hu, hlt⟩, if_pos ⟨k1, k2, hu, hlt⟩]
      refine ⟨fun c hc => ?_, List.mem_cons_self .., rfl⟩
      rcases List.mem_cons.1 hc with rfl | hc
      · omega
      · have := (h.l1 k k1 k2 (fun h' => hk (List.mem_cons_of_mem _ h')) (fun e => by rw [e] at hc; simp at hc)).1 c hc
        omega
    · rw [if_neg (fun ht => hlt ht.2.2.2), if_neg (fun ht => hlt ht.2.2.2)]
      have hne : rest ≠ [] := fun e => by
        have := h.l0 e k k1 k2
        omega
      obtain ⟨a, b, c⟩ := h.l1 k k1 k2 (fun h' => hk (List.mem_cons_of_mem _ h')) hne
      refine ⟨fun x hx => ?_, List.mem_cons_of_mem _ b, c⟩
      rcases List.mem_cons.1 hx with rfl | hx
      · omega
      · exact a x hx
  have bd : ∀ k, 1 ≤ k → k ≤ n → k ∉ j :: rest → -1000000000 ≤ lS (dK loss u v (row j)) least (up used j true) n k ∧ lS (dK loss u v (row j)) least (up used j true) n k ≤ 3 * 1000000000 := by
    intro k k1 k2 hk
    obtain ⟨a, b, c⟩ := ok k k1 k2 hk
    generalize wS (dK loss u v (row j)) least (up used j true) j way n k = x at *
    have hx := hrow x b
    have b1 := h.bu hin hl hx.1 hx.2
    have b2 := h.bv hin hl k1 k2
    have b3 := hl (row x) k hx.1 (by omega) k1 k2
    omega
  generalize hL : lS (dK loss u v (row j)) least (up used j true) n = L at *
  generalize wS (dK loss u v (row j)) least (up used j true) j way n = wy at *
  obtain ⟨s1, s2⟩ := dS_spec L (up used j true) n
  obtain ⟨f, f1, f2, f3⟩ := h.free hin
  have hf : f ∉ j :: rest := fun hf => by
    have := hrow f hf
    omega
  have hfu : up used j true f = false := by rw [hus f f2]; simpa using hf
  have q1 := s1 f f1 f2 hfu
  have q2 := bd f f1 f2 hf
  generalize dS L (up used j true) n = D at *
  rcases s2 with s2 | ⟨t1, t2, t3, t4⟩
  · rw [s2] at q1
    simp only at q1
    omega
  · refine ⟨fun k k1 k2 hk => ?_, t1, t2, ?_, t4, fun k k1 k2 hk => s1 k k1 k2 (by rw [hus k k2]; simpa using hk)⟩
    · obtain ⟨a, b, c⟩ := ok k k1 k2 hk
      exact ⟨a, b, c, bd k k1 k2 hk⟩
    · rw [hus _ t2] at t3
      simpa using t3
def inU (row : Nat → Nat) (used : Nat → Bool) (m r : Nat) : Bool := (List.range m).any fun c => used c && decide (row c = r)
def uU (u : Nat → Int) (row : Nat → Nat) (used : Nat → Bool) (dl : Int) (m : Nat) : Nat → Int := fun r => if inU row used m r = true then u r + dl else u r
def vU (v : Nat → Int) (used : Nat → Bool) (dl : Int) (m : Nat) : Nat → Int := fun k => if k < m ∧ used k = true then v k - dl else v k
def lU (L : Nat → Int) (used : Nat → Bool) (dl : Int) (m : Nat) : Nat → Int := fun k => if k < m ∧ used k = false then L k - dl else L k
theorem inU_iff {m r : Nat} : inU row used m r = true ↔ ∃ c, c < m ∧ used c = true ∧ row c = r := by
  simp [inU]
theorem Iv.inT (h : Iv loss n i V0 u v row way least used j rest) {r : Nat} : inU row (up used j true) (n + 1) r = true ↔ ∃ c ∈ j :: rest, row c = r := by
  rw [inU_iff]
  constructor
  · rintro ⟨c, h1, h2, h3⟩
    rw [h.used' (by omega)] at h2
    exact ⟨c, by simpa using h2, h3⟩
  · rintro ⟨c, h1, h2⟩
    have hc : c ≤ n := by
      rcases List.mem_cons.1 h1 with rfl | h1
      · exact h.jn
      · exact (h.rn c h1).1
    exact ⟨c, by omega, by rw [h.used' hc]; simpa using h1, h2⟩
theorem Iv.next (h : Iv loss n i V0 u v row way least used j rest) (hin : i ≤ n) (hl : Ls loss n) (hr : row j ≠ 0) {wy : Nat → Nat} {L : Nat → Int} {dl : Int} {nx : Nat}
    (hwy : ∀ k, k ∈ j :: rest → wy k = way k) (s : Sc loss n i u v row wy L (up used j true) dl nx (j :: rest)) :
    Iv loss n i V0 (uU u row (up used j true) dl (n + 1)) (vU v (up used j true) dl (n + 1)) row wy (lU L (up used j true) dl (n + 1)) (up used j true) nx (j :: rest) ∧ -1000000000 ≤ dl ∧ dl ≤ 3 * 1000000000 := by
  have hus := fun k hk => h.used' (k := k) hk
  have hinT := fun r => h.inT (r := r)
  have hrow := fun c (hc : c ∈ j :: rest) => show 1 ≤ row c ∧ row c ≤ i ∧ c ≤ n from by
    rcases List.mem_cons.1 hc with rfl | hc
    · exact ⟨by omega, h.rb _ h.jn, h.jn⟩
    · exact ⟨by have := (h.rn c hc).2; omega, h.rb _ (h.rn c hc).1, (h.rn c hc).1⟩
  have uT : ∀ c ∈ j :: rest, uU u row (up used j true) dl (n + 1) (row c) = u (row c) + dl := fun c hc => if_pos ((hinT _).2 ⟨c, hc, rfl⟩)
  have uN : ∀ r, (∀ c ∈ j :: rest, row c ≠ r) → uU u row (up used j true) dl (n + 1) r = u r := fun r hn => if_neg fun ht => by
    obtain ⟨c, h1, h2⟩ := (hinT r).1 ht
    exact hn c h1 h2
  have vT : ∀ k ∈ j :: rest, vU v (up used j true) dl (n + 1) k = v k - dl := fun k hk => if_pos ⟨by have := (hrow k hk).2.2; omega, by rw [hus k (hrow k hk).2.2]; simpa using hk⟩
  have vN : ∀ k, k ≤ n → k ∉ j :: rest → vU v (up used j true) dl (n + 1) k = v k := fun k hkn hk => if_neg fun ht => by
    have := ht.2
    rw [hus k hkn] at this
    exact hk (by simpa using this)
  have lN : ∀ k, k ≤ n → k ∉ j :: rest → lU L (up used j true) dl (n + 1) k = L k - dl := fun k hkn hk => if_pos ⟨by omega, by rw [hus k hkn]; simpa using hk⟩
  have h0 := h.ch.zero
  have posd : ∀ k, 1 ≤ k → k ∈ j :: rest → rest ≠ [] := fun k k1 hk e => by
    have hj := h.rest0 e
    subst hj
    rw [e] at hk
    have : k = 0 := by simpa using hk
    omega
  obtain ⟨sa, sb, sc, sd1, sd2⟩ := s.ok nx s.n1 s.n2 s.nn
  have hdl := s.de
  have dpos : rest ≠ [] → 0 ≤ dl := fun hne => by
    have hx := hrow _ sb
    have := h.fe _ nx hx.1 hx.2.1 s.n1 s.n2 (fun e => absurd e hne)
    omega
  refine ⟨⟨?_, fun k hk => hus k hk, s.n2, fun k hk => ⟨(hrow k hk).2.2, by have := (hrow k hk).1; omega⟩, h.i1, h.r0, h.rb, h.inj, h.sur, fun r k r1 r2 k1 k2 _ => ?_, fun k k1 k2 hk => ?_, fun k k1 k2 => ?_, fun r hri => ?_, fun e => by simp at e, ?_, fun e => by simp at e, fun k k1 k2 hk _ => ?_, ?_⟩, by omega, by omega⟩
  · refine .step nx _ (by have := s.n1; omega) sb (by have := (hrow _ sb).1; omega) ?_ s.nn ?_
    · rw [uT _ sb, vN nx s.n2 s.nn]; omega
    · refine h.ch.congr fun k hk hk0 hw => ⟨hwy k hk, rfl, ?_⟩
      rw [uT _ hw, vT k hk]; omega
  · by_cases hT : ∃ c ∈ j :: rest, row c = r
    · obtain ⟨c, hc, rfl⟩ := hT
      rw [uT c hc]
      by_cases hk : k ∈ j :: rest
      · rw [vT k hk]
        have := h.fe (row c) k r1 r2 k1 k2 (fun e => absurd e (posd k k1 hk))
        omega
      · rw [vN k k2 hk]
        have h1 := (s.ok k k1 k2 hk).1 c hc
        have h2 := s.low k k1 k2 hk
        omega
    · rw [uN r fun c hc e => hT ⟨c, hc, e⟩]
      by_cases hk : k ∈ j :: rest
      · rw [vT k hk]
        have hne := posd k k1 hk
        have := h.fe r k r1 r2 k1 k2 (fun e => absurd e hne)
        have := dpos hne
        omega
      · rw [vN k k2 hk]
        refine h.fe r k r1 r2 k1 k2 fun _ e => hT ⟨0, h0, ?_⟩
        rw [h.r0, e]
  · have ht := h.ti k k1 k2 hk
    by_cases hkT : k ∈ j :: rest
    · rw [uT k hkT, vT k hkT]; omega
    · rw [vN k k2 hkT, uN (row k) fun c hc e => hkT ?_]
      · exact ht
      · have := h.inj c k (hrow c hc).2.2 k2 e (by have := (hrow c hc).1; omega)
        exact this ▸ hc
  · have hv := h.vn k k1 k2
    by_cases hkT : k ∈ j :: rest
    · rw [vT k hkT]
      have := dpos (posd k k1 hkT)
      exact ⟨by omega, fun e => by have := (hrow k hkT).1; omega⟩
    · rw [vN k k2 hkT]; exact hv
  · rw [uN r fun c hc e => by have := (hrow c hc).2.1; omega]
    exact h.uz r hri
  · have := uT 0 h0
    rw [h.r0] at this
    rw [this]
    by_cases e : rest = []
    · have h1 := h.ui e
      have hj := h.rest0 e
      subst hj
      rw [e] at sb
      have e2 : wy nx = 0 := by simpa using sb
      rw [e2, h.r0] at sc
      have := hl i nx h.i1 hin s.n1 s.n2
      have := (h.vn nx s.n1 s.n2).1
      omega
    · have := dpos e
      have := h.ul
      omega
  · obtain ⟨a, b, c, _, _⟩ := s.ok k k1 k2 hk
    rw [lN k k2 hk, vN k k2 hk]
    refine ⟨fun x hx => ?_, b, ?_⟩
    · rw [uT x hx]
      have := a x hx
      omega
    · rw [uT _ b]; omega
  · have h1 := uT 0 h0
    rw [h.r0] at h1
    rw [vT 0 h0, h1, h.v0]; omega
end
end Go.Proofs.Ytajpngnphbdnnaa.Hung
namespace Go.Proofs.Ytajpngnphbdnnaa.Hung
set_option linter.unusedSimpArgs false
set_option linter.unusedVariables false
section
variable {loss : Nat → Nat → Int} {u v least : Nat → Int} {row way : Nat → Nat} {used : Nat → Bool} {rest : List Nat} {n i j : Nat} {V0 : Int}
/-- Ahead of row i: the rows before it have columns. -/
structure Ov (loss : Nat → Nat → Int) (n i : Nat) (u v : Nat → Int) (row : Nat → Nat) : Prop where
  rb : ∀ k, 1 ≤ k → k ≤ n → row k < i
  inj : ∀ a b, 1 ≤ a → a ≤ n → 1 ≤ b → b ≤ n → row a = row b → row a ≠ 0 → a = b
  sur : ∀ r, 1 ≤ r → r < i → ∃ a, 1 ≤ a ∧ a ≤ n ∧ row a = r
  fe : ∀ r k, 1 ≤ r → r < i → 1 ≤ k → k ≤ n → u r + v k ≤ loss r k
  ti : ∀ k, 1 ≤ k → k ≤ n → row k ≠ 0 → u (row k) + v k = loss (row k) k
  vn : ∀ k, 1 ≤ k → k ≤ n → v k ≤ 0 ∧ (row k = 0 → v k = 0)
  uz : ∀ r, i ≤ r → u r = 0
  v0 : 0 ≤ v 0 ∧ v 0 ≤ 1000000000 * ((i : Int) - 1)
theorem Ov.start (loss : Nat → Nat → Int) (n : Nat) : Ov loss n 1 (fun _ => 0) (fun _ => 0) (fun _ => 0) :=
  ⟨fun _ _ _ => by omega, fun _ _ _ _ _ _ _ h => absurd rfl h, fun r h1 h2 => by omega, fun r k h1 h2 => by omega, fun _ _ _ h => absurd rfl h, fun _ _ _ => ⟨Int.le_refl _, fun _ => rfl⟩, fun _ _ => rfl, by omega⟩
theorem Ov.begin (h : Ov loss n i u v row) (hi : 1 ≤ i) (way : Nat → Nat) : Iv loss n i (v 0) u v (up row 0 i) way (fun _ => 1152921504606846976) (fun _ => false) 0 [] := by
  have hne : ∀ k, 1 ≤ k → up row 0 i k = row k := fun k hk => up_ne _ _ (by omega)
  refine ⟨.base, fun k _ => by simp, Nat.zero_le _, fun k hk => by simp at hk, hi, up_same .., fun k hk => ?_, fun a b ha hb e hz => ?_, fun r r1 r2 => ?_, fun r k r1 r2 k1 k2 hr => h.fe r k r1 (by have := hr rfl; omega) k1 k2, fun k k1 k2 hk => ?_, fun k k1 k2 => ?_, fun r hr => h.uz r (by omega), fun _ => h.uz i (Nat.le_refl _), ?_, fun _ _ _ _ => rfl, fun _ _ _ _ hne => absurd rfl hne, ?_⟩
  · by_cases k0 : k = 0
    · subst k0; rw [up_same]; exact Nat.le_refl _
    · rw [hne k (by omega)]; have := h.rb k (by omega) hk; omega
  · by_cases a0 : a = 0
    · by_cases b0 : b = 0
      · omega
      · subst a0
        rw [up_same, hne b (by omega)] at e
        have := h.rb b (by omega) hb
        omega
    · by_cases b0 : b = 0
      · subst b0
        rw [up_same, hne a (by omega)] at e
        have := h.rb a (by omega) ha
        omega
      · rw [hne a (by omega), hne b (by omega)] at e
        rw [hne a (by omega)] at hz
        exact h.inj a b (by omega) ha (by omega) hb e hz
  · by_cases e : r = i
    · exact ⟨0, Nat.zero_le _, by rw [up_same, e]⟩
    · obtain ⟨a, a1, a2, a3⟩ := h.sur r r1 (by omega)
      exact ⟨a, a2, by rw [hne a a1, a3]⟩
  · rw [hne k k1] at hk ⊢
    exact h.ti k k1 k2 hk
  · rw [hne k k1]
    exact h.vn k k1 k2
  · rw [h.uz i (Nat.le_refl _)]; omega
  · rw [h.uz i (Nat.le_refl _)]; omega
/-- The columns are handed on along the way. -/
structure Ag (loss : Nat → Nat → Int) (n i : Nat) (u v : Nat → Int) (row way : Nat → Nat) (j : Nat) (rest : List Nat) : Prop where
  ch : Ch loss u v row way (j :: rest)
  jn : j ≤ n
  rn : ∀ k ∈ rest, k ≤ n
  rb : ∀ k, k ≤ n → row k ≤ i
  inj : ∀ a b, a ≤ n → b ≤ n → a ≠ j → b ≠ j → row a = row b → row a ≠ 0 → a = b
  sur : ∀ r, 1 ≤ r → r ≤ i → ∃ a, a ≤ n ∧ a ≠ j ∧ row a = r
  ti : ∀ k, 1 ≤ k → k ≤ n → k ≠ j → row k ≠ 0 → u (row k) + v k = loss (row k) k
  vz : ∀ k, 1 ≤ k → k ≤ n → k ≠ j → row k = 0 → v k = 0
  fe : ∀ r k, 1 ≤ r → r ≤ i → 1 ≤ k → k ≤ n → u r + v k ≤ loss r k
  vn : ∀ k, 1 ≤ k → k ≤ n → v k ≤ 0
  uz : ∀ r, i < r → u r = 0
  v0 : 0 ≤ v 0 ∧ v 0 ≤ 1000000000 * (i : Int)
theorem Iv.found (h : Iv loss n i V0 u v row way least used j rest) (hin : i ≤ n) (hl : Ls loss n) (hV : 0 ≤ V0 ∧ V0 ≤ 1000000000 * ((i : Int) - 1)) (hr : row j = 0) : Ag loss n i u v row way j rest := by
  have hj : j ≠ 0 := fun e => by have := h.r0; have := h.i1; rw [e] at hr; omega
  have hne : rest ≠ [] := fun e => hj (h.rest0 e)
  refine ⟨h.ch, h.jn, fun k hk => (h.rn k hk).1, h.rb, fun a b ha hb _ _ => h.inj a b ha hb, fun r r1 r2 => ?_, fun k k1 k2 _ => h.ti k k1 k2, fun k k1 k2 _ e => (h.vn k k1 k2).2 e, fun r k r1 r2 k1 k2 => h.fe r k r1 r2 k1 k2 fun e => absurd e hne, fun k k1 k2 => (h.vn k k1 k2).1, h.uz, ?_⟩
  · obtain ⟨a, a1, a2⟩ := h.sur r r1 r2
    exact ⟨a, a1, fun e => by rw [e] at a2; omega, a2⟩
  · have := h.bu hin hl h.i1 (Nat.le_refl _)
    have := h.v0
    omega
theorem Ag.step (h : Ag loss n i u v row way j rest) (hj : j ≠ 0) : way j ≤ n ∧ ∃ rest', Ag loss n i u v (up row j (row (way j))) way (way j) rest' ∧ rest'.length < rest.length := by
  have hc := h.ch
  cases hc with
  | base => exact absurd rfl hj
  | step _ _ h0 hw hr ht hk hch =>
    obtain ⟨r', c1, c2, c3⟩ := hch.sub hw
    have wn : way j ≤ n := h.rn _ hw
    have wj : way j ≠ j := fun e => hk (by rw [e] at hw; exact hw)
    have hne : ∀ k, k ≠ j → up row j (row (way j)) k = row k := fun k e => up_ne _ _ e
    have hs := up_same row j (row (way j))
    refine ⟨wn, r', ⟨c1.congr fun k hk' _ hwk => ⟨rfl, hne _ fun e => hk (c2 _ (e ▸ hwk)), rfl⟩, wn, fun k hk' => h.rn k (c2 k (List.mem_cons_of_mem _ hk')), fun k hkn => ?_, fun a b ha hb hane hbne e hz => ?_, fun r r1 r2 => ?_, fun k k1 k2 hkw hz => ?_, fun k k1 k2 hkw hz => ?_, h.fe, h.vn, h.uz, h.v0⟩, c3⟩
    · by_cases e : k = j
      · subst e; rw [hs]; exact h.rb _ wn
      · rw [hne k e]; exact h.rb k hkn
    · by_cases aj : a = j
      · by_cases bj : b = j
        · rw [aj, bj]
        · subst aj
          rw [hs, hne b bj] at e
          have := h.inj (way a) b wn hb wj bj e hr
          exact absurd this.symm hbne
      · by_cases bj : b = j
        · subst bj
          rw [hs, hne a aj] at e
          have := h.inj a (way b) ha wn aj wj e (by rw [hne a aj] at hz; exact hz)
          exact absurd this hane
        · rw [hne a aj, hne b bj] at e
          rw [hne a aj] at hz
          exact h.inj a b ha hb aj bj e hz
    · obtain ⟨a, a1, a2, a3⟩ := h.sur r r1 r2
      by_cases e : a = way j
      · exact ⟨j, h.jn, fun e' => wj e'.symm, by rw [hs, ← e, a3]⟩
      · exact ⟨a, a1, e, by rw [hne a a2, a3]⟩
    · by_cases e : k = j
      · subst e; rw [hs]; exact ht
      · rw [hne k e] at hz ⊢
        exact h.ti k k1 k2 e hz
    · by_cases e : k = j
      · subst e; rw [hs] at hz; exact absurd hz hr
      · rw [hne k e] at hz
        exact h.vz k k1 k2 e hz
theorem Ag.done (h : Ag loss n i u v row way 0 rest) : Ov loss n (i + 1) u v row :=
  ⟨fun k k1 k2 => by have := h.rb k k2; omega, fun a b a1 a2 b1 b2 => h.inj a b a2 b2 (by omega) (by omega), fun r r1 r2 => by
    obtain ⟨a, a1, a2, a3⟩ := h.sur r r1 (by omega)
    exact ⟨a, by omega, a1, a3⟩, fun r k r1 r2 => h.fe r k r1 (by omega), fun k k1 k2 => h.ti k k1 k2 (by omega), fun k k1 k2 => ⟨h.vn k k1 k2, h.vz k k1 k2 (by omega)⟩, fun r hr => h.uz r (by omega), by have := h.v0; omega⟩
theorem Ov.all (h : Ov loss n (n + 1) u v row) : ∃ p : Nat → Nat, Pr n n p ∧ (∀ q, q < n → p q < n) ∧ (∀ q, q < n → row (p q + 1) = q + 1) ∧ ∀ k, k < n → ∃ q, q < n ∧ p q = k := by
  have hc : ∀ q, ∃ k, q < n → k < n ∧ row (k + 1) = q + 1 := fun q => by
    by_cases hq : q < n
    · obtain ⟨a, a1, a2, a3⟩ := h.sur (q + 1) (by omega) (by omega)
      exact ⟨a - 1, fun _ => ⟨by omega, by rw [show a - 1 + 1 = a by omega, a3]⟩⟩
    · exact ⟨0, fun h' => absurd h' hq⟩
  obtain ⟨p, hp⟩ := Classical.axiomOfChoice hc
  have hinj : Pr n n p := fun x y hx hy _ e => by
    have h1 := (hp x hx).2
    have h2 := (hp y hy).2
    rw [e, h2] at h1
    omega
  refine ⟨p, hinj, fun q hq => (hp q hq).1, fun q hq => (hp q hq).2, fun k hk => ?_⟩
  apply Classical.byContradiction
  intro hno
  have := nodup_le (l := (List.range n).map p) (k := (List.range n).erase k) (by
    rw [List.Nodup, List.pairwise_map]
    refine (List.nodup_range (n := n)).imp_of_mem fun {a b} ha hb hab e => hab ?_
    simp only [List.mem_range] at ha hb
    exact hinj a b ha hb (hp a ha).1 e) fun x hx => by
      obtain ⟨q, hq, rfl⟩ := List.mem_map.1 hx
      simp only [List.mem_range] at hq
      exact (List.mem_erase_of_ne fun e => hno ⟨q, hq, e⟩).2 (List.mem_range.2 (hp q hq).1)
  rw [List.length_map, List.length_range, List.length_erase_of_mem (List.mem_range.2 hk), List.length_range] at this
  omega
/-- What the search comes to. -/
structure Best (w : Nat → Nat → Int) (l r : Nat) (a b : Nat → Int) (best : Int) : Prop where
  du : Dual w l r a b
  su : sN a l + sN b r = best
  pa : ∃ p, Pr l r p ∧ tot w r p l = best
  ba : ∀ q, q < l → a q ≤ 1000000000
  bb : ∀ q, q < r → b q ≤ 1000000000
theorem Best.max {w : Nat → Nat → Int} {l r : Nat} {a b : Nat → Int} {best : Int} (h : Best w l r a b best) : IsMax w l r best :=
  ⟨h.pa, fun p hp => by have := h.du.bound hp; rw [h.su] at this; exact this⟩
theorem Ov.best {w : Nat → Nat → Int} {l r : Nat} (h : Ov loss n (n + 1) u v row) (hw : ∀ x y, x < n → y < n → loss (x + 1) (y + 1) = -w x y) (hwb : ∀ x y, x < n → y < n → 0 ≤ w x y ∧ w x y ≤ 1000000000) (hl : l ≤ n) (hr : r ≤ n)
    (hz : ∀ x y, x < n → y < n → l ≤ x ∨ r ≤ y → w x y = 0) {low : Int} (h1 : ∃ q, q < n ∧ low = -v (q + 1)) (h2 : ∀ q, q < n → low ≤ -v (q + 1)) :
    Best w l r (fun x => -u (x + 1) + low) (fun y => -v (y + 1) - low) (sN (fun k => -loss (row (k + 1)) (k + 1)) n) := by
  obtain ⟨p, p1, p2, p3, p4⟩ := h.all
  obtain ⟨q0, hq0, e0⟩ := h1
  have fe : ∀ x y, x < n → y < n → w x y ≤ (-u (x + 1) + low) + (-v (y + 1) - low) := fun x y hx hy => by
    have := h.fe (x + 1) (y + 1) (by omega) (by omega) (by omega) (by omega)
    rw [hw x y hx hy] at this
    omega
  have ti : ∀ x, x < n → (-u (x + 1) + low) + (-v (p x + 1) - low) = w x (p x) := fun x hx => by
    have hp := p2 x hx
    have := h.ti (p x + 1) (by omega) (by omega) (by rw [p3 x hx]; omega)
    rw [p3 x hx, hw x (p x) hx hp] at this
    omega
  have na : ∀ x, x < n → 0 ≤ -u (x + 1) + low := fun x hx => by
    have := fe x q0 hx hq0
    have := (hwb x q0 hx hq0).1
    omega
  have nb : ∀ y, y < n → 0 ≤ -v (y + 1) - low := fun y hy => by have := h2 y hy; omega
  have az : ∀ x, l ≤ x → x < n → -u (x + 1) + low = 0 := fun x hx hn => by
    have := ti x hn
    rw [hz x (p x) hn (p2 x hn) (.inl hx)] at this
    have := na x hn
    have := nb (p x) (p2 x hn)
    omega
  have bz : ∀ y, r ≤ y → y < n → -v (y + 1) - low = 0 := fun y hy hn => by
    obtain ⟨x, hx, e⟩ := p4 y hn
    have := ti x hx
    rw [e, hz x y hx hn (.inr hy)] at this
    have := na x hx
    have := nb y hn
    omega
  have sa := sN_ext (f := fun x => -u (x + 1) + low) hl az
  have sb := sN_ext (f := fun y => -v (y + 1) - low) hr bz
  have s1 : sN (fun x => w x (p x)) n = sN (fun x => -u (x + 1) + low) n + sN (fun y => -v (y + 1) - low) n := by
    rw [← met_eq p1 p2 (fun y => -v (y + 1) - low) nb, ← sN_add]
    exact sN_congr fun x hx => (ti x hx).symm
  have s2 : sN (fun k => -loss (row (k + 1)) (k + 1)) n = sN (fun x => w x (p x)) n := by
    have := met_eq p1 p2 (fun k => -loss (row (k + 1)) (k + 1)) fun k hk => by
      obtain ⟨x, hx, e⟩ := p4 k hk
      rw [← e, p3 x hx, hw x (p x) hx (p2 x hx)]
      have := (hwb x (p x) hx (p2 x hx)).1
      omega
    rw [← this]
    exact sN_congr fun x hx => by rw [p3 x hx, hw x (p x) hx (p2 x hx)]; omega
  refine ⟨⟨fun x hx => na x (by omega), fun y hy => nb y (by omega), fun x y hx hy => fe x y (by omega) (by omega)⟩, by rw [s2, s1, sa, sb], ⟨p, fun x y hx hy hp e => p1 x y (by omega) (by omega) (by omega) e, ?_⟩, fun x hx => ?_, fun y hy => ?_⟩
  · rw [s2, sN_ext (f := fun x => w x (p x)) hl fun x h1 h2 => hz x (p x) h2 (p2 x h2) (.inl h1)]
    refine sN_congr fun x hx => ?_
    split
    · rfl
    · rename_i h'
      exact (hz x (p x) (by omega) (p2 x (by omega)) (.inr (by omega))).symm
  · have := ti x (by omega)
    have := (hwb x (p x) (by omega) (p2 x (by omega))).2
    have := nb (p x) (p2 x (by omega))
    show -u (x + 1) + low ≤ _
    omega
  · obtain ⟨x, hx, e⟩ := p4 y (by omega)
    have := ti x hx
    rw [e] at this
    have := (hwb x y hx (by omega)).2
    have := na x hx
    show -v (y + 1) - low ≤ _
    omega
end
end Go.Proofs.Ytajpngnphbdnnaa.Hung
namespace Go.Proofs.Ytajpngnphbdnnaa.Hung
set_option linter.unusedSimpArgs false
set_option linter.unusedVariables false
/-- The greatest worth of a pairing between two lists. -/
def mx (w : Nat → Nat → Int) : List Nat → List Nat → Int
  | [], _ => 0
  | x :: L, R => R.foldl (fun best y => max best (w x y + mx w L (R.erase y))) (mx w L R)
theorem foldl_max_ge {f : Nat → Int} : ∀ (R : List Nat) (z : Int), z ≤ R.foldl (fun b y => max b (f y)) z ∧ ∀ y ∈ R, f y ≤ R.foldl (fun b y => max b (f y)) z
  | [], _ => ⟨Int.le_refl _, fun y hy => by simp at hy⟩
  | x :: R, z => by
    obtain ⟨h1, h2⟩ := foldl_max_ge (f := f) R (max z (f x))
    simp only [List.foldl_cons]
    refine ⟨by omega, fun y hy => ?_⟩
    rcases List.mem_cons.1 hy with rfl | hy
    · omega
    · exact h2 y hy
theorem foldl_max_at {f : Nat → Int} : ∀ (R : List Nat) (z : Int), R.foldl (fun b y => max b (f y)) z = z ∨ ∃ y ∈ R, R.foldl (fun b y => max b (f y)) z = f y
  | [], _ => .inl rfl
  | x :: R, z => by
    simp only [List.foldl_cons]
    rcases foldl_max_at (f := f) R (max z (f x)) with h | ⟨y, h1, h2⟩
    · by_cases hc : z ≤ f x
      · exact .inr ⟨x, List.mem_cons_self .., by rw [h]; omega⟩
      · exact .inl (by rw [h]; omega)
    · exact .inr ⟨y, List.mem_cons_of_mem _ h1, h2⟩
theorem mx_skip (w : Nat → Nat → Int) (x : Nat) (L R : List Nat) : mx w L R ≤ mx w (x :: L) R := (foldl_max_ge R _).1
theorem mx_take (w : Nat → Nat → Int) (x : Nat) (L : List Nat) {R : List Nat} {y : Nat} (hy : y ∈ R) : w x y + mx w L (R.erase y) ≤ mx w (x :: L) R := (foldl_max_ge (f := fun y => w x y + mx w L (R.erase y)) R _).2 y hy
theorem mx_cases (w : Nat → Nat → Int) (x : Nat) (L R : List Nat) : mx w (x :: L) R = mx w L R ∨ ∃ y ∈ R, mx w (x :: L) R = w x y + mx w L (R.erase y) := foldl_max_at (f := fun y => w x y + mx w L (R.erase y)) R _
/-- A pairing between two lists: what is not in R stands for none. -/
def PrL (L R : List Nat) (p : Nat → Nat) : Prop := ∀ x ∈ L, ∀ x' ∈ L, p x ∈ R → p x = p x' → x = x'
def totL (w : Nat → Nat → Int) (R : List Nat) (p : Nat → Nat) : List Nat → Int
  | [] => 0
  | x :: L => (if p x ∈ R then w x (p x) else 0) + totL w R p L
theorem totL_congr {w : Nat → Nat → Int} {R R' : List Nat} {p p' : Nat → Nat} : ∀ {L : List Nat}, (∀ x ∈ L, (if p x ∈ R then w x (p x) else 0) = if p' x ∈ R' then w x (p' x) else 0) → totL w R p L = totL w R' p' L
  | [], _ => rfl
  | x :: L, h => by
    simp only [totL]
    rw [h x (List.mem_cons_self ..), totL_congr fun y hy => h y (List.mem_cons_of_mem _ hy)]
theorem mx_ub (w : Nat → Nat → Int) : ∀ (L R : List Nat) (p : Nat → Nat), L.Nodup → PrL L R p → totL w R p L ≤ mx w L R
  | [], R, p, _, _ => by simp [totL, mx]
  | x :: L, R, p, hn, hp => by
    obtain ⟨n1, n2⟩ := List.nodup_cons.1 hn
    simp only [totL]
    by_cases h : p x ∈ R
    · have ih := mx_ub w L (R.erase (p x)) p n2 fun a ha b hb h1 h2 => hp a (List.mem_cons_of_mem _ ha) b (List.mem_cons_of_mem _ hb) (List.mem_of_mem_erase h1) h2
      have e : totL w (R.erase (p x)) p L = totL w R p L := totL_congr fun y hy => by
        have hne : p y ≠ p x := fun e => n1 ((hp x (List.mem_cons_self ..) y (List.mem_cons_of_mem _ hy) h e.symm) ▸ hy)
        simp only [List.mem_erase_of_ne hne]
      have := mx_take w x L h
      rw [if_pos h]; omega
    · have ih := mx_ub w L R p n2 fun a ha b hb => hp a (List.mem_cons_of_mem _ ha) b (List.mem_cons_of_mem _ hb)
      have := mx_skip w x L R
      rw [if_neg h]; omega
theorem out_of (R : List Nat) : ∃ N : Nat, N ∉ R := by
  have : ∃ N : Nat, ∀ y ∈ R, y < N := by
    induction R with
    | nil => exact ⟨0, fun y hy => by simp at hy⟩
    | cons x R ih =>
      obtain ⟨N, hN⟩ := ih
      refine ⟨max (x + 1) N, fun y hy => ?_⟩
      rcases List.mem_cons.1 hy with rfl | hy
      · omega
      · have := hN y hy; omega
  obtain ⟨N, hN⟩ := this
  exact ⟨N, fun h => by have := hN N h; omega⟩
theorem mx_at (w : Nat → Nat → Int) : ∀ (L R : List Nat), L.Nodup → R.Nodup → ∃ p, PrL L R p ∧ totL w R p L = mx w L R
  | [], R, _, _ => ⟨fun _ => 0, fun x hx => by simp at hx, rfl⟩
  | x :: L, R, hn, hR => by
    obtain ⟨n1, n2⟩ := List.nodup_cons.1 hn
    obtain ⟨N, hN⟩ := out_of R
    rcases mx_cases w x L R with h | ⟨y, hy, h⟩
    · obtain ⟨p, p1, p2⟩ := mx_at w L R n2 hR
      have hne : ∀ z ∈ L, (if z = x then N else p z) = p z := fun z hz => if_neg fun e => n1 (by rw [← e]; exact hz)
      refine ⟨fun z => if z = x then N else p z, fun a ha b hb h1 h2 => ?_, ?_⟩
      · rcases List.mem_cons.1 ha with ha | ha
        · simp only [ha, if_true] at h1; exact absurd h1 hN
        · rcases List.mem_cons.1 hb with hb | hb
          · simp only [hb, if_true] at h2; simp only [h2] at h1; exact absurd h1 hN
          · simp only [hne a ha, hne b hb] at h1 h2
            exact p1 a ha b hb h1 h2
      · simp only [totL, if_true, if_neg hN]
        rw [totL_congr (p' := p) (R' := R) fun z hz => by simp only [hne z hz], p2, h]; omega
    · obtain ⟨p, p1, p2⟩ := mx_at w L (R.erase y) n2 (hR.erase y)
      have hny : ∀ z, z ∈ R.erase y → z ≠ y := fun z hz e => by
        subst e
        exact (hR.mem_erase_iff.1 hz).1 rfl
      have hne : ∀ z ∈ L, (if z = x then y else if p z ∈ R.erase y then p z else N) = if p z ∈ R.erase y then p z else N := fun z hz => if_neg fun e => n1 (by rw [← e]; exact hz)
      have hNe : N ≠ y := fun e => hN (e ▸ hy)
      refine ⟨fun z => if z = x then y else if p z ∈ R.erase y then p z else N, fun a ha b hb h1 h2 => ?_, ?_⟩
      · have key : ∀ z ∈ L, (if p z ∈ R.erase y then p z else N) ≠ y := fun z hz e => by
          split at e
          · rename_i h; exact hny _ h e
          · exact hNe e
        rcases List.mem_cons.1 ha with ha | ha
        · rcases List.mem_cons.1 hb with hb | hb
          · rw [ha, hb]
          · simp only [ha, if_true, hne b hb] at h2
            exact absurd h2.symm (key b hb)
        · rcases List.mem_cons.1 hb with hb | hb
          · simp only [hb, if_true, hne a ha] at h2
            exact absurd h2 (key a ha)
          · simp only [hne a ha, hne b hb] at h1 h2
            by_cases ca : p a ∈ R.erase y
            · rw [if_pos ca] at h1 h2
              by_cases cb : p b ∈ R.erase y
              · rw [if_pos cb] at h2; exact p1 a ha b hb ca h2
              · rw [if_neg cb] at h2; rw [h2] at h1; exact absurd h1 hN
            · rw [if_neg ca] at h1; exact absurd h1 hN
      · simp only [totL, if_true, if_pos hy]
        rw [totL_congr (p' := p) (R' := R.erase y) fun z hz => by
          simp only [hne z hz]
          by_cases c : p z ∈ R.erase y
          · rw [if_pos c, if_pos c, if_pos (List.mem_of_mem_erase c)]
          · rw [if_neg c, if_neg c, if_neg hN], p2, h]
theorem totL_sN (w : Nat → Nat → Int) (R : List Nat) (p : Nat → Nat) : ∀ (L : List Nat), totL w R p L = sN (fun i => if p (L.getD i 0) ∈ R then w (L.getD i 0) (p (L.getD i 0)) else 0) L.length := by
  have key : ∀ (f : Nat → Int) n, sN f (n + 1) = f 0 + sN (fun i => f (i + 1)) n := by
    intro f n
    induction n with
    | zero => simp [sN]
    | succ n ih => rw [sN, ih]; simp only [sN]; omega
  intro L
  induction L with
  | nil => rfl
  | cons x L ih => rw [totL, List.length_cons, key, ih]; simp
theorem getD_mem' {L : List Nat} {i : Nat} (h : i < L.length) : L.getD i 0 ∈ L := by
  rw [List.getD_eq_getElem?_getD, List.getElem?_eq_getElem h]; exact List.getElem_mem h
theorem getD_idx {L : List Nat} {x : Nat} (h : x ∈ L) : L.getD (L.idxOf x) 0 = x := by
  have := List.idxOf_lt_length_of_mem h
  rw [List.getD_eq_getElem?_getD, List.getElem?_eq_getElem this]; simp
theorem idx_getD {L : List Nat} {i : Nat} (hn : L.Nodup) (h : i < L.length) : L.idxOf (L.getD i 0) = i := by
  rw [List.getD_eq_getElem?_getD, List.getElem?_eq_getElem h]
  exact hn.idxOf_getElem i h
/-- What the search comes to is the greatest worth. -/
theorem Best.mx {w : Nat → Nat → Int} {L R : List Nat} {a b : Nat → Int} {best : Int} (h : Best (fun i q => w (L.getD i 0) (R.getD q 0)) L.length R.length a b best) (hL : L.Nodup) (hR : R.Nodup) : best = mx w L R := by
  apply Int.le_antisymm
  · obtain ⟨p, p1, p2⟩ := h.pa
    obtain ⟨N, hN⟩ := out_of R
    have := mx_ub w L R (fun x => if p (L.idxOf x) < R.length then R.getD (p (L.idxOf x)) 0 else N) hL fun x hx x' hx' h1 h2 => by
      simp only at h1 h2
      split at h1
      · rename_i hc
        simp only [hc, if_true] at h2
        split at h2
        · rename_i hc'
          have e := congrArg R.idxOf h2
          rw [idx_getD hR hc, idx_getD hR hc'] at e
          have := p1 _ _ (List.idxOf_lt_length_of_mem hx) (List.idxOf_lt_length_of_mem hx') hc e
          rw [← getD_idx hx, ← getD_idx hx', this]
        · rw [h2] at h1; exact absurd h1 hN
      · exact absurd h1 hN
    rw [totL_sN] at this
    refine Int.le_trans (Int.le_of_eq ?_) this
    rw [← p2]
    refine sN_congr fun i hi => ?_
    simp only [idx_getD hL hi]
    by_cases hc : p i < R.length
    · rw [if_pos hc, if_pos hc, if_pos (getD_mem' hc)]
    · rw [if_neg hc, if_neg hc, if_neg hN]
  · obtain ⟨p, p1, p2⟩ := mx_at w L R hL hR
    have := h.du.bound (p := fun i => if p (L.getD i 0) ∈ R then R.idxOf (p (L.getD i 0)) else R.length) fun i i' hi hi' h1 h2 => by
      simp only at h1 h2
      split at h1
      · rename_i hc
        simp only [hc, if_true] at h2
        split at h2
        · rename_i hc'
          have e : p (L.getD i 0) = p (L.getD i' 0) := by rw [← getD_idx hc, ← getD_idx hc', h2]
          have := p1 _ (getD_mem' hi) _ (getD_mem' hi') hc e
          rw [← idx_getD hL hi, ← idx_getD hL hi', this]
        · rw [h2] at h1; omega
      · omega
    rw [h.su] at this
    refine Int.le_trans (Int.le_of_eq ?_) this
    rw [← p2, totL_sN]
    refine sN_congr fun i hi => ?_
    simp only
    by_cases hc : p (L.getD i 0) ∈ R
    · simp only [if_pos hc]
      rw [if_pos (List.idxOf_lt_length_of_mem hc), getD_idx hc]
    · simp only [if_neg hc]
      rw [if_neg (by omega)]
theorem mx_mono (w : Nat → Nat → Int) (hw : ∀ x y, 0 ≤ w x y) : ∀ (L R : List Nat) (y : Nat), mx w L (R.erase y) ≤ mx w L R
  | [], _, _ => by simp [mx]
  | x :: L, R, y => by
    rcases mx_cases w x L (R.erase y) with h | ⟨z, hz, h⟩
    · rw [h]; exact Int.le_trans (mx_mono w hw L R y) (mx_skip w x L R)
    · rw [h, List.erase_comm]
      have := mx_mono w hw L (R.erase z) y
      have := mx_take w x L (List.mem_of_mem_erase hz)
      omega
theorem mx_nonneg (w : Nat → Nat → Int) : ∀ (L R : List Nat), 0 ≤ mx w L R
  | [], _ => by simp [mx]
  | x :: L, R => Int.le_trans (mx_nonneg w L R) (mx_skip w x L R)
/-- What a pair adds. -/
def wo (c : Nat → Nat → Int) (x y : Nat) : Int := if c x y < 0 then 0 else 1000000000 - c x y
/-- The partner that the first of the cheapest pairings gives a glove. -/
def pick (c : Nat → Nat → Int) (x : Nat) (L R : List Nat) (left : Int) : List Nat → Option Nat
  | [] => none
  | y :: T => if c x y < 0 then pick c x L R left T else if mx (wo c) L (R.erase y) + wo c x y = left then some y else pick c x L R left T
/-- The first of the cheapest pairings. -/
def chp (c : Nat → Nat → Int) : List Nat → List Nat → List Int
  | [], _ => []
  | x :: L, R => match pick c x L R (mx (wo c) (x :: L) R) R with
    | some y => (y : Int) :: chp c L (R.erase y)
    | none => -1 :: chp c L R
theorem pick_some {c : Nat → Nat → Int} {x y : Nat} {L R : List Nat} {left : Int} : ∀ {T : List Nat}, pick c x L R left T = some y → y ∈ T ∧ 0 ≤ c x y ∧ mx (wo c) L (R.erase y) + wo c x y = left
  | [], h => by cases h
  | z :: T, h => by
    simp only [pick] at h
    split at h
    · obtain ⟨a, b⟩ := pick_some h
      exact ⟨List.mem_cons_of_mem _ a, b⟩
    · split at h
      · injection h with h; subst h
        exact ⟨List.mem_cons_self .., by omega, by assumption⟩
      · obtain ⟨a, b⟩ := pick_some h
        exact ⟨List.mem_cons_of_mem _ a, b⟩
theorem pick_none {c : Nat → Nat → Int} {x : Nat} {L R : List Nat} {left : Int} : ∀ {T : List Nat}, pick c x L R left T = none → ∀ y ∈ T, 0 ≤ c x y → mx (wo c) L (R.erase y) + wo c x y ≠ left
  | [], _ => fun y hy _ => by simp at hy
  | z :: T, h => fun y hy h0 => by
    simp only [pick] at h
    rcases List.mem_cons.1 hy with rfl | hy
    · rw [if_neg (by omega)] at h
      split at h
      · cases h
      · assumption
    · split at h
      · exact pick_none h y hy h0
      · split at h
        · cases h
        · exact pick_none h y hy h0
theorem wo_nonneg {c : Nat → Nat → Int} (hc : ∀ x y, c x y ≤ 1000000000) (x y : Nat) : 0 ≤ wo c x y := by
  unfold wo; have := hc x y; split <;> omega
theorem chp_skip {c : Nat → Nat → Int} (hc : ∀ x y, c x y ≤ 1000000000) {x : Nat} {L R : List Nat} (h : pick c x L R (mx (wo c) (x :: L) R) R = none) : mx (wo c) (x :: L) R = mx (wo c) L R := by
  rcases mx_cases (wo c) x L R with e | ⟨y, hy, e⟩
  · exact e
  · by_cases h0 : 0 ≤ c x y
    · exact absurd (by rw [e]; omega) (pick_none h y hy h0)
    · have h1 : wo c x y = 0 := if_pos (by omega)
      have := mx_mono (wo c) (wo_nonneg hc) L R y
      have := mx_skip (wo c) x L R
      omega
end Go.Proofs.Ytajpngnphbdnnaa.Hung
namespace Go.Proofs.Ytajpngnphbdnnaa.Abs
set_option linter.unusedSimpArgs false
set_option linter.unusedVariables false
open Go.RowKit
open Go.Proofs.Ytajpngnphbdnnaa.Sim
open Go.Proofs
theorem fit : Fit Try.prog := ⟨fun f fn h => by
  have key : (Try.prog.funcs.toList.all fun fn => !(fn.name == "runtime.NumGoroutine")) = true := by kernel_rfl
  have := List.all_eq_true.1 key fn (by simpa using Array.mem_of_getElem? h)
  simpa using this, by kernel_rfl⟩
theorem el27 : elemB Try.prog 27 = some (3, 1, 8, #[.int .i64 0]) := by kernel_rfl
theorem el88 : elemB Try.prog 88 = some (4, 1, 1, #[.bool false]) := by kernel_rfl
theorem un27 : Try.prog.underlying 27 = some (.slice 3) := by kernel_rfl
theorem un80 : Try.prog.underlying 80 = some (.slice 27) := by kernel_rfl
theorem sz3 : szB Try.prog 3 = some 1 := by kernel_rfl
theorem take_snoc {α : Type} (l : List α) (k : Nat) (d : α) (h : k < l.length) : l.take (k + 1) = l.take k ++ [l.getD k d] := by
  rw [List.take_succ_eq_append_getElem h]; simp [h]
/-- A row as a function. -/
def tab (f : Nat → Int) (n : Nat) : List Int := (List.range n).map f
@[simp] theorem tab_len (f : Nat → Int) (n : Nat) : (tab f n).length = n := by simp [tab]
theorem tab_get (f : Nat → Int) {n k : Nat} (h : k < n) : (tab f n).getD k 0 = f k := by simp [tab, h]
theorem tab_congr {f g : Nat → Int} {n : Nat} (h : ∀ i, i < n → f i = g i) : tab f n = tab g n := List.map_congr_left fun i hi => h i (List.mem_range.1 hi)
theorem tab_set (f : Nat → Int) (n k : Nat) (x : Int) : (tab f n).set k x = tab (Hung.up f k x) n := by
  apply List.ext_getElem?
  intro i
  by_cases hi : i < n
  · by_cases e : k = i
    · subst e; rw [List.getElem?_set_self (by rw [tab_len]; exact hi)]; simp [tab, hi, Hung.up]
    · rw [List.getElem?_set_ne e]; simp [tab, hi, Hung.up, Ne.symm e]
  · rw [List.getElem?_eq_none (by rw [List.length_set, tab_len]; omega), List.getElem?_eq_none (by rw [tab_len]; omega)]
theorem tab_rep (n : Nat) (x : Int) : List.replicate n x = tab (fun _ => x) n := by
  unfold tab
  rw [List.map_const']; simp
def tabB (f : Nat → Bool) (n : Nat) : List Bool := (List.range n).map f
@[simp] theorem tabB_len (f : Nat → Bool) (n : Nat) : (tabB f n).length = n := by simp [tabB]
theorem tabB_get (f : Nat → Bool) {n k : Nat} (h : k < n) : (tabB f n).getD k false = f k := by simp [tabB, h]
theorem tabB_set (f : Nat → Bool) (n k : Nat) (x : Bool) : (tabB f n).set k x = tabB (Hung.up f k x) n := by
  apply List.ext_getElem?
  intro i
  by_cases hi : i < n
  · by_cases e : k = i
    · subst e; rw [List.getElem?_set_self (by rw [tabB_len]; exact hi)]; simp [tabB, hi, Hung.up]
    · rw [List.getElem?_set_ne e]; simp [tabB, hi, Hung.up, Ne.symm e]
  · rw [List.getElem?_eq_none (by rw [List.length_set, tabB_len]; omega), List.getElem?_eq_none (by rw [tabB_len]; omega)]
theorem tabB_rep (n : Nat) (x : Bool) : List.replicate n x = tabB (fun _ => x) n := by
  unfold tabB
  rw [List.map_const']; simp
/-- Numbers as ints. -/
def nats (l : List Nat) : List Int := l.map Nat.cast
@[simp] theorem nats_len (l : List Nat) : (nats l).length = l.length := by simp [nats]
theorem nats_get (l : List Nat) (k : Nat) : (nats l).getD k 0 = (l.getD k 0 : Nat) := by
  simp only [nats, List.getD_eq_getElem?_getD, List.getElem?_map]
  cases l[k]? <;> simp
set_option maxRecDepth 100000 in
theorem upTo_ok {m : AM} (n : Nat) (hn : n ≤ 100000) : ACall Try.prog 55 #[.int .i64 (n : Nat)] m (New (some { cells := iv (nats (List.range n)) }) n m) := by
  refine ACall.start Try.func55 rfl rfl ?_
  (repeat (first | (with_reducible refine AWo.cons ?_) | ((with_reducible refine Step.id ?_); first | ((with_reducible apply Step.move); exact rfl; exact rfl) | ((with_reducible apply Step.assign); exact rfl; exact rfl) | ((with_reducible apply Step.len); exact rfl; (focus (exact Sl.mk (by omega))); (focus (decide +kernel)); exact rfl) | ((with_reducible apply Step.make1 0); exact rfl; exact rfl; exact rfl; exact el27; (focus (omega)); exact rfl; (focus (first | (simp only [List.nil_append, List.cons_append, List.set_cons_zero, List.set_cons_succ, iv_set, bv_set, iv_rep, bv_rep]; done) | (simp only [List.nil_append, List.cons_append, List.set_cons_zero, List.set_cons_succ, iv_set, bv_set, iv_rep, bv_rep]; rfl) | rfl)))) | (with_reducible refine AWo.nil ?_) | ((with_reducible apply AW.seq)) | ((with_reducible apply Then.n)) | ((with_reducible apply AW.regL)) | ((with_reducible apply AW.block))))
  refine AW.loopT (fun r t L => ∃ k : Nat, r = n - k ∧ k ≤ n ∧ L = [some { cells := iv (nats (List.range k) ++ List.replicate (n - k) 0) }] ∧
    t = [(3, .slice (some ⟨m.length + 0, 0, none⟩) n n), (8, .int .i64 (n : Nat)), (9, .int .i64 (k : Nat))]) ⟨_, _, _, (Or.inl ⟨rfl, (by repeat (first | exact trivial | (refine And.intro rfl ?_)))⟩), 0, rfl, Nat.zero_le _, by simp [nats], rfl⟩ ?_
  rintro r t L ⟨k, rfl, hk, rfl, rfl⟩
  have kl := nats_len (List.range k)
  rcases Nat.lt_or_ge k n with hlt | hge
  · (repeat (first | (with_reducible refine AWo.cons ?_) | ((with_reducible refine Step.id ?_); first | ((with_reducible apply Step.move); exact rfl; exact rfl) | ((with_reducible apply Step.assign); exact rfl; exact rfl) | ((with_reducible apply Step.ix1z); exact rfl; (focus (exact Sl.mk (by omega))); exact rfl; (focus (decide +kernel)); exact rfl; (focus (omega))) | ((with_reducible apply Step.add); exact rfl; exact rfl; (focus (omega)); exact rfl) | ((with_reducible apply Step.lss); exact rfl; exact rfl; exact rfl) | ((with_reducible apply Step.store (k := 0)); exact rfl; exact rfl; exact rfl; exact rfl; (focus (decide +kernel)); exact rfl; exact rfl; (focus (first | omega | (simp [iv, bv]; done) | (simp [iv, bv]; omega))); (focus (first | (simp only [List.nil_append, List.cons_append, List.set_cons_zero, List.set_cons_succ, iv_set, bv_set, iv_rep, bv_rep]; done) | (simp only [List.nil_append, List.cons_append, List.set_cons_zero, List.set_cons_succ, iv_set, bv_set, iv_rep, bv_rep]; rfl) | rfl)))) | (with_reducible refine AWo.nil ?_) | ((with_reducible apply AW.seq)) | ((with_reducible apply Then.n)) | ((with_reducible apply AW.regL)) | ((with_reducible apply AW.block)) | ((with_reducible apply InBlk.n)) | ((with_reducible apply AW.skip)) | ((with_reducible apply AW.condT); exact rfl; (focus ((simp only [decide_eq_true_eq, decide_eq_false_iff_not, Bool.not_eq_true', Bool.not_eq_false', Bool.not_true, Bool.not_false]; first | assumption | omega))))))
    refine ⟨_, _, _, by omega, (Or.inl ⟨rfl, (by repeat (first | exact trivial | (refine And.intro rfl ?_)))⟩), k + 1, rfl, by omega, ?_, rfl⟩
    have : (nats (List.range k) ++ List.replicate (n - k) 0).set k (k : Int) = nats (List.range (k + 1)) ++ List.replicate (n - (k + 1)) 0 := by
      rw [show n - k = (n - (k + 1)) + 1 by omega, List.replicate_succ, List.set_append_right _ _ (by simp [nats])]
      simp [nats, List.range_succ]
    rw [this]
  · (repeat (first | (with_reducible refine AWo.cons ?_) | ((with_reducible refine Step.id ?_); first | ((with_reducible apply Step.move); exact rfl; exact rfl) | ((with_reducible apply Step.assign); exact rfl; exact rfl) | ((with_reducible apply Step.lss); exact rfl; exact rfl; exact rfl)) | (with_reducible refine AWo.nil ?_) | ((with_reducible apply AW.seq)) | ((with_reducible apply Then.n)) | ((with_reducible apply AW.regL)) | ((with_reducible apply AW.exit)) | ((with_reducible apply InBlk.hit)) | ((with_reducible apply Then.e)) | ((with_reducible apply AW.condF); exact rfl; (focus ((simp only [decide_eq_true_eq, decide_eq_false_iff_not, Bool.not_eq_true', Bool.not_eq_false', Bool.not_true, Bool.not_false]; first | assumption | omega))))))
    obtain rfl : k = n := by omega
    (refine AW.retB (l := [(2, _)]) (Or.inl ⟨rfl, (by repeat (first | exact trivial | (refine And.intro rfl ?_)))⟩) ?_; (repeat (first | refine Then.r ?_ | refine InBlk.r ?_)))
    exact ⟨_, rfl, rfl, by simp⟩
set_option maxRecDepth 100000 in
theorem negated_ok {m : AM} {v : Value} {f : Nat → Int} {n : Nat} (hv : Ints m v (tab f n)) (hn : n ≤ 100000) (hf : ∀ k, k < n → -9000000000000000000 ≤ f k ∧ f k ≤ 9000000000000000000) : ACall Try.prog 90 #[v] m (New (some { cells := iv (tab (fun k => -f k) n) }) n m) := by
  obtain ⟨a, o, h1, h2, h3⟩ := hv
  rw [tab_len] at h1 h3
  refine ACall.start Try.func90 rfl rfl ?_
  (repeat (first | (with_reducible refine AWo.cons ?_) | ((with_reducible refine Step.id ?_); first | ((with_reducible apply Step.move); exact rfl; exact rfl) | ((with_reducible apply Step.assign); exact rfl; exact rfl) | ((with_reducible apply Step.len); exact rfl; (focus (assumption)); (focus (decide +kernel)); exact rfl) | ((with_reducible apply Step.make1 0); exact rfl; exact rfl; exact rfl; exact el27; (focus (omega)); exact rfl; (focus (first | (simp only [List.nil_append, List.cons_append, List.set_cons_zero, List.set_cons_succ, iv_set, bv_set, iv_rep, bv_rep]; done) | (simp only [List.nil_append, List.cons_append, List.set_cons_zero, List.set_cons_succ, iv_set, bv_set, iv_rep, bv_rep]; rfl) | rfl)))) | (with_reducible refine AWo.nil ?_) | ((with_reducible apply AW.seq)) | ((with_reducible apply Then.n)) | ((with_reducible apply AW.regL)) | ((with_reducible apply AW.block))))
  refine AW.loopT (fun r t L => ∃ k : Nat, r = n - k ∧ k ≤ n ∧ L = [some { cells := iv (tab (fun i => if i < k then -f i else 0) n) }] ∧
    t = [(3, .slice (some ⟨m.length + 0, 0, none⟩) n n), (9, v), (10, .int .i64 (n : Nat)), (11, .int .i64 (k : Nat))]) ⟨_, _, _, (Or.inl ⟨rfl, (by repeat (first | exact trivial | (refine And.intro rfl ?_)))⟩), 0, rfl, Nat.zero_le _, by rw [tab_rep]; simp, rfl⟩ ?_
  rintro r t L ⟨k, rfl, hk, rfl, rfl⟩
  have kl := tab_len (fun i => if i < k then -f i else 0) n
  rcases Nat.lt_or_ge k n with hlt | hge
  · have hr := h3 k hlt
    rw [tab_get f hlt] at hr
    have := hf k hlt
    (repeat (first | (with_reducible refine AWo.cons ?_) | ((with_reducible refine Step.id ?_); first | ((with_reducible apply Step.move); exact rfl; exact rfl) | ((with_reducible apply Step.assign); exact rfl; exact rfl) | ((with_reducible apply Step.load); exact rfl; (focus (decide +kernel)); exact rfl; (focus (exact Rd.old _ (by assumption)))) | ((with_reducible apply Step.ix1z); exact rfl; (focus (exact Sl.mk (by omega))); exact rfl; (focus (decide +kernel)); exact rfl; (focus (omega))) | ((with_reducible apply Step.ix1); exact rfl; (focus (assumption)); exact rfl; (focus (decide +kernel)); exact rfl; (focus (omega))) | ((with_reducible apply Step.add); exact rfl; exact rfl; (focus (omega)); exact rfl) | ((with_reducible apply Step.lss); exact rfl; exact rfl; exact rfl) | ((with_reducible apply Step.neg); exact rfl; (focus (omega)); exact rfl) | ((with_reducible apply Step.store (k := 0)); exact rfl; exact rfl; exact rfl; exact rfl; (focus (decide +kernel)); exact rfl; exact rfl; (focus (first | omega | (simp [iv, bv]; done) | (simp [iv, bv]; omega))); (focus (first | (simp only [List.nil_append, List.cons_append, List.set_cons_zero, List.set_cons_succ, iv_set, bv_set, iv_rep, bv_rep]; done) | (simp only [List.nil_append, List.cons_append, List.set_cons_zero, List.set_cons_succ, iv_set, bv_set, iv_rep, bv_rep]; rfl) | rfl)))) | (with_reducible refine AWo.nil ?_) | ((with_reducible apply AW.seq)) | ((with_reducible apply Then.n)) | ((with_reducible apply AW.regL)) | ((with_reducible apply AW.block)) | ((with_reducible apply InBlk.n)) | ((with_reducible apply AW.skip)) | ((with_reducible apply AW.condT); exact rfl; (focus ((simp only [decide_eq_true_eq, decide_eq_false_iff_not, Bool.not_eq_true', Bool.not_eq_false', Bool.not_true, Bool.not_false]; first | assumption | omega))))))
    refine ⟨_, _, _, by omega, (Or.inl ⟨rfl, (by repeat (first | exact trivial | (refine And.intro rfl ?_)))⟩), k + 1, rfl, by omega, ?_, rfl⟩
    rw [tab_set]
    have : tab (Hung.up (fun i => if i < k then -f i else 0) k (-f k)) n = tab (fun i => if i < k + 1 then -f i else 0) n := tab_congr fun i hi => by
      simp only [Hung.up]
      by_cases e : i = k
      · subst e; rw [if_pos rfl, if_pos (by omega)]
      · rw [if_neg e]
        by_cases c : i < k
        · simp only [if_pos c, if_pos (show i < k + 1 by omega)]
        · simp only [if_neg c, if_neg (show ¬ i < k + 1 by omega)]
    rw [this]
  · (repeat (first | (with_reducible refine AWo.cons ?_) | ((with_reducible refine Step.id ?_); first | ((with_reducible apply Step.move); exact rfl; exact rfl) | ((with_reducible apply Step.assign); exact rfl; exact rfl) | ((with_reducible apply Step.lss); exact rfl; exact rfl; exact rfl)) | (with_reducible refine AWo.nil ?_) | ((with_reducible apply AW.seq)) | ((with_reducible apply Then.n)) | ((with_reducible apply AW.regL)) | ((with_reducible apply AW.exit)) | ((with_reducible apply InBlk.hit)) | ((with_reducible apply Then.e)) | ((with_reducible apply AW.condF); exact rfl; (focus ((simp only [decide_eq_true_eq, decide_eq_false_iff_not, Bool.not_eq_true', Bool.not_eq_false', Bool.not_true, Bool.not_false]; first | assumption | omega))))))
    obtain rfl : k = n := by omega
    have : tab (fun i => if i < k then -f i else 0) k = tab (fun i => -f i) k := tab_congr fun i hi => if_pos hi
    rw [this] at *
    (refine AW.retB (l := [(2, _)]) (Or.inl ⟨rfl, (by repeat (first | exact trivial | (refine And.intro rfl ?_)))⟩) ?_; (repeat (first | refine Then.r ?_ | refine InBlk.r ?_)))
    exact ⟨_, rfl, rfl, by simp⟩
/-- The least of a row. -/
def minF (f : Nat → Int) : Nat → Int
  | 0 => f 0
  | n + 1 => min (minF f n) (f (n + 1))
def maxF (f : Nat → Int) : Nat → Int
  | 0 => f 0
  | n + 1 => max (maxF f n) (f (n + 1))
theorem minF_le (f : Nat → Int) : ∀ {n k : Nat}, k ≤ n → minF f n ≤ f k
  | 0, k, h => by obtain rfl : k = 0 := by omega
                  exact Int.le_refl _
  | n + 1, k, h => by
    simp only [minF]
    by_cases e : k = n + 1
    · subst e; omega
    · have := minF_le f (n := n) (k := k) (by omega); omega
theorem minF_at (f : Nat → Int) : ∀ n, ∃ k, k ≤ n ∧ minF f n = f k
  | 0 => ⟨0, by omega, rfl⟩
  | n + 1 => by
    obtain ⟨k, h1, h2⟩ := minF_at f n
    simp only [minF]
    by_cases e : minF f n ≤ f (n + 1)
    · exact ⟨k, by omega, by omega⟩
    · exact ⟨n + 1, by omega, by omega⟩
set_option maxRecDepth 100000 in
theorem min_ok {m : AM} {v : Value} {f : Nat → Int} {n : Nat} (hv : Ints m v (tab f (n + 1))) (hn : n ≤ 100000) : ACall Try.prog 91 #[v] m (Ret (.int .i64 (minF f n)) m) := by
  obtain ⟨a, o, h1, h2, h3⟩ := hv
  rw [tab_len] at h1 h3
  have hr := h3 0 (by omega)
  rw [tab_get f (by omega)] at hr
  refine ACall.start Try.func91 rfl rfl ?_
  (repeat (first | (with_reducible refine AWo.cons ?_) | ((with_reducible refine Step.id ?_); first | ((with_reducible apply Step.move); exact rfl; exact rfl) | ((with_reducible apply Step.assign); exact rfl; exact rfl) | ((with_reducible apply Step.lss); exact rfl; exact rfl; exact rfl) | ((with_reducible apply Step.len); exact rfl; (focus (assumption)); (focus (decide +kernel)); exact rfl)) | (with_reducible refine AWo.nil ?_) | ((with_reducible apply AW.seq)) | ((with_reducible apply Then.n)) | ((with_reducible apply AW.regL)) | ((with_reducible apply AW.skip)) | ((with_reducible apply AW.condF); exact rfl; (focus (rfl)))))
  ((with_reducible apply Step.ix1 (k := 0)); exact rfl; exact h1; exact rfl; (focus (decide +kernel)); exact rfl; (focus (omega)))
  (repeat (first | (with_reducible refine AWo.cons ?_) | ((with_reducible refine Step.id ?_); first | ((with_reducible apply Step.assign); exact rfl; exact rfl) | ((with_reducible apply Step.load); exact rfl; (focus (decide +kernel)); exact rfl; (focus (exact Rd.old _ (by assumption))))) | (with_reducible refine AWo.nil ?_) | ((with_reducible apply AW.seq)) | ((with_reducible apply Then.n)) | ((with_reducible apply AW.regL)) | ((with_reducible apply AW.block))))
  refine AW.loopT (fun r t L => ∃ k : Nat, r = n + 1 - k ∧ 1 ≤ k ∧ k ≤ n + 1 ∧ L = [] ∧
    t = [(0, v), (3, .int .i64 (minF f (k - 1))), (4, .int .i64 (k : Nat))]) ⟨_, _, _, (Or.inl ⟨rfl, (by repeat (first | exact trivial | (refine And.intro rfl ?_)))⟩), 1, rfl, by omega, by omega, rfl, rfl⟩ ?_
  rintro r t L ⟨k, rfl, hk1, hk, rfl, rfl⟩
  obtain ⟨k, rfl⟩ : ∃ i, k = i + 1 := ⟨k - 1, by omega⟩
  rcases Nat.lt_or_ge k n with hlt | hge
  · have hr := h3 (k + 1) (by omega)
    rw [tab_get f (by omega)] at hr
    (repeat (first | (with_reducible refine AWo.cons ?_) | ((with_reducible refine Step.id ?_); first | ((with_reducible apply Step.move); exact rfl; exact rfl) | ((with_reducible apply Step.assign); exact rfl; exact rfl) | ((with_reducible apply Step.load); exact rfl; (focus (decide +kernel)); exact rfl; (focus (exact Rd.old _ (by assumption)))) | ((with_reducible apply Step.ix1); exact rfl; (focus (assumption)); exact rfl; (focus (decide +kernel)); exact rfl; (focus (omega))) | ((with_reducible apply Step.add); exact rfl; exact rfl; (focus (omega)); exact rfl) | ((with_reducible apply Step.lss); exact rfl; exact rfl; exact rfl) | ((with_reducible apply Step.len); exact rfl; (focus (assumption)); (focus (decide +kernel)); exact rfl) | ((with_reducible apply Step.min); exact rfl; exact rfl; exact rfl)) | (with_reducible refine AWo.nil ?_) | ((with_reducible apply AW.seq)) | ((with_reducible apply Then.n)) | ((with_reducible apply AW.regL)) | ((with_reducible apply AW.block)) | ((with_reducible apply InBlk.n)) | ((with_reducible apply AW.skip)) | ((with_reducible apply AW.condT); exact rfl; (focus ((simp only [decide_eq_true_eq, decide_eq_false_iff_not, Bool.not_eq_true', Bool.not_eq_false', Bool.not_true, Bool.not_false]; first | assumption | omega))))))
    exact ⟨_, _, _, by omega, (Or.inl ⟨rfl, (by repeat (first | exact trivial | (refine And.intro rfl ?_)))⟩), k + 1 + 1, rfl, by omega, by omega, rfl, rfl⟩
  · (repeat (first | (with_reducible refine AWo.cons ?_) | ((with_reducible refine Step.id ?_); first | ((with_reducible apply Step.move); exact rfl; exact rfl) | ((with_reducible apply Step.assign); exact rfl; exact rfl) | ((with_reducible apply Step.lss); exact rfl; exact rfl; exact rfl) | ((with_reducible apply Step.len); exact rfl; (focus (assumption)); (focus (decide +kernel)); exact rfl)) | (with_reducible refine AWo.nil ?_) | ((with_reducible apply AW.seq)) | ((with_reducible apply Then.n)) | ((with_reducible apply AW.regL)) | ((with_reducible apply AW.exit)) | ((with_reducible apply InBlk.hit)) | ((with_reducible apply Then.e)) | ((with_reducible apply AW.condF); exact rfl; (focus ((simp only [decide_eq_true_eq, decide_eq_false_iff_not, Bool.not_eq_true', Bool.not_eq_false', Bool.not_true, Bool.not_false]; first | assumption | omega))))))
    obtain rfl : k = n := by omega
    (refine AW.retD (l := [(2, _)]) (by repeat (first | exact trivial | (refine And.intro ⟨rfl, by (exact .int _ _)⟩ ?_))) ?_; (repeat (first | refine Then.r ?_ | refine InBlk.r ?_)))
    exact ⟨_, rfl, rfl, rfl⟩
set_option maxRecDepth 100000 in
theorem max_ok {m : AM} {v : Value} {f : Nat → Int} {n : Nat} (hv : Ints m v (tab f (n + 1))) (hn : n ≤ 100000) : ACall Try.prog 96 #[v] m (Ret (.int .i64 (maxF f n)) m) := by
  obtain ⟨a, o, h1, h2, h3⟩ := hv
  rw [tab_len] at h1 h3
  have hr := h3 0 (by omega)
  rw [tab_get f (by omega)] at hr
  refine ACall.start Try.func96 rfl rfl ?_
  (repeat (first | (with_reducible refine AWo.cons ?_) | ((with_reducible refine Step.id ?_); first | ((with_reducible apply Step.move); exact rfl; exact rfl) | ((with_reducible apply Step.assign); exact rfl; exact rfl) | ((with_reducible apply Step.lss); exact rfl; exact rfl; exact rfl) | ((with_reducible apply Step.len); exact rfl; (focus (assumption)); (focus (decide +kernel)); exact rfl)) | (with_reducible refine AWo.nil ?_) | ((with_reducible apply AW.seq)) | ((with_reducible apply Then.n)) | ((with_reducible apply AW.regL)) | ((with_reducible apply AW.skip)) | ((with_reducible apply AW.condF); exact rfl; (focus (rfl)))))
  ((with_reducible apply Step.ix1 (k := 0)); exact rfl; exact h1; exact rfl; (focus (decide +kernel)); exact rfl; (focus (omega)))
  (repeat (first | (with_reducible refine AWo.cons ?_) | ((with_reducible refine Step.id ?_); first | ((with_reducible apply Step.assign); exact rfl; exact rfl) | ((with_reducible apply Step.load); exact rfl; (focus (decide +kernel)); exact rfl; (focus (exact Rd.old _ (by assumption))))) | (with_reducible refine AWo.nil ?_) | ((with_reducible apply AW.seq)) | ((with_reducible apply Then.n)) | ((with_reducible apply AW.regL)) | ((with_reducible apply AW.block))))
  refine AW.loopT (fun r t L => ∃ k : Nat, r = n + 1 - k ∧ 1 ≤ k ∧ k ≤ n + 1 ∧ L = [] ∧
    t = [(0, v), (3, .int .i64 (maxF f (k - 1))), (4, .int .i64 (k : Nat))]) ⟨_, _, _, (Or.inl ⟨rfl, (by repeat (first | exact trivial | (refine And.intro rfl ?_)))⟩), 1, rfl, by omega, by omega, rfl, rfl⟩ ?_
  rintro r t L ⟨k, rfl, hk1, hk, rfl, rfl⟩
  obtain ⟨k, rfl⟩ : ∃ i, k = i + 1 := ⟨k - 1, by omega⟩
  rcases Nat.lt_or_ge k n with hlt | hge
  · have hr := h3 (k + 1) (by omega)
    rw [tab_get f (by omega)] at hr
    (repeat (first | (with_reducible refine AWo.cons ?_) | ((with_reducible refine Step.id ?_); first | ((with_reducible apply Step.move); exact rfl; exact rfl) | ((with_reducible apply Step.assign); exact rfl; exact rfl) | ((with_reducible apply Step.load); exact rfl; (focus (decide +kernel)); exact rfl; (focus (exact Rd.old _ (by assumption)))) | ((with_reducible apply Step.ix1); exact rfl; (focus (assumption)); exact rfl; (focus (decide +kernel)); exact rfl; (focus (omega))) | ((with_reducible apply Step.add); exact rfl; exact rfl; (focus (omega)); exact rfl) | ((with_reducible apply Step.lss); exact rfl; exact rfl; exact rfl) | ((with_reducible apply Step.len); exact rfl; (focus (assumption)); (focus (decide +kernel)); exact rfl) | ((with_reducible apply Step.max); exact rfl; exact rfl; exact rfl)) | (with_reducible refine AWo.nil ?_) | ((with_reducible apply AW.seq)) | ((with_reducible apply Then.n)) | ((with_reducible apply AW.regL)) | ((with_reducible apply AW.block)) | ((with_reducible apply InBlk.n)) | ((with_reducible apply AW.skip)) | ((with_reducible apply AW.condT); exact rfl; (focus ((simp only [decide_eq_true_eq, decide_eq_false_iff_not, Bool.not_eq_true', Bool.not_eq_false', Bool.not_true, Bool.not_false]; first | assumption | omega))))))
    exact ⟨_, _, _, by omega, (Or.inl ⟨rfl, (by repeat (first | exact trivial | (refine And.intro rfl ?_)))⟩), k + 1 + 1, rfl, by omega, by omega, rfl, rfl⟩
  · (repeat (first | (with_reducible refine AWo.cons ?_) | ((with_reducible refine Step.id ?_); first | ((with_reducible apply Step.move); exact rfl; exact rfl) | ((with_reducible apply Step.assign); exact rfl; exact rfl) | ((with_reducible apply Step.lss); exact rfl; exact rfl; exact rfl) | ((with_reducible apply Step.len); exact rfl; (focus (assumption)); (focus (decide +kernel)); exact rfl)) | (with_reducible refine AWo.nil ?_) | ((with_reducible apply AW.seq)) | ((with_reducible apply Then.n)) | ((with_reducible apply AW.regL)) | ((with_reducible apply AW.exit)) | ((with_reducible apply InBlk.hit)) | ((with_reducible apply Then.e)) | ((with_reducible apply AW.condF); exact rfl; (focus ((simp only [decide_eq_true_eq, decide_eq_false_iff_not, Bool.not_eq_true', Bool.not_eq_false', Bool.not_true, Bool.not_false]; first | assumption | omega))))))
    obtain rfl : k = n := by omega
    (refine AW.retD (l := [(2, _)]) (by repeat (first | exact trivial | (refine And.intro ⟨rfl, by (exact .int _ _)⟩ ?_))) ?_; (repeat (first | refine Then.r ?_ | refine InBlk.r ?_)))
    exact ⟨_, rfl, rfl, rfl⟩
end Go.Proofs.Ytajpngnphbdnnaa.Abs
namespace Go.Proofs.Ytajpngnphbdnnaa.Abs
set_option linter.unusedSimpArgs false
set_option linter.unusedVariables false
open Go.RowKit
open Go.Proofs.Ytajpngnphbdnnaa.Sim
/-- Done so far, and one more. -/
def upL (L : Nat → Bool) (i : Nat) : Nat → Bool := fun j => cond (Nat.beq j i) true (L j)
theorem upL_same (L : Nat → Bool) (i : Nat) : upL L i i = true := by simp [upL]
theorem upL_ne (L : Nat → Bool) {i j : Nat} (h : j ≠ i) : upL L i j = L j := by
  have : Nat.beq j i = false := by
    cases e : Nat.beq j i with
    | false => rfl
    | true => exact absurd (Nat.eq_of_beq_eq_true e) h
  simp [upL, this]
def cntL (L : Nat → Bool) : Nat → Nat
  | 0 => 0
  | n + 1 => cntL L n + cond (L n) 0 1
theorem cntL_eq (L L' : Nat → Bool) : ∀ n, (∀ j, j < n → L j = L' j) → cntL L n = cntL L' n
  | 0, _ => rfl
  | n + 1, h => by simp only [cntL]; rw [h n (by omega), cntL_eq L L' n fun j hj => h j (by omega)]
theorem cntL_up (L : Nat → Bool) (i : Nat) (hi : L i = false) : ∀ n, i < n → cntL (upL L i) n + 1 = cntL L n
  | 0, h => by omega
  | n + 1, h => by
    simp only [cntL]
    by_cases e : i = n
    · subst e
      rw [upL_same, hi, cntL_eq (upL L i) L i fun j hj => upL_ne L (by omega)]; simp
    · rw [upL_ne L (show n ≠ i by omega), ← cntL_up L i hi n (by omega)]; omega
theorem cntL_zero (L : Nat → Bool) : ∀ n, cntL L n = 0 → ∀ j, j < n → L j = true
  | 0, _, j, hj => by omega
  | n + 1, h, j, hj => by
    simp only [cntL] at h
    by_cases e : j = n
    · subst e
      cases hl : L j with
      | true => rfl
      | false => rw [hl] at h; simp at h
    · exact cntL_zero L n (by omega) j (by omega)
theorem cntL_le (L : Nat → Bool) : ∀ n, cntL L n ≤ n
  | 0 => Nat.le_refl _
  | n + 1 => by
    have := cntL_le L n
    simp only [cntL]
    cases L n <;> simp <;> omega
/-- What an operation waits for. -/
def depsO (o : Oper) : List Nat := (o.after.toList.filter fun e => Region.binds .any e).map (·.on)
def backB (l : List Oper) : Bool := (List.range l.length).all fun i => match l[i]? with
  | some o => (depsO o).all fun j => Nat.blt j i
  | none => true
section
variable {P : Program} {nt : Nat} {t : Fm} {m m0 : AM} {l : List Oper}
theorem AWd.inv {Q : Fm → AM → Prop} (Inv : (Nat → Bool) → Fm → AM → Prop) (hb : backB l = true)
    (hs : ∀ (i : Nat) (o : Oper), l[i]? = some o → ∀ (L : Nat → Bool) (t : Fm) (m : AM), Inv L t m → L i = false → (∀ j ∈ depsO o, L j = true) → Step P nt l.toArray o t m (fun t m => Inv (upL L i) t m))
    (he : ∀ (L : Nat → Bool) (t : Fm) (m : AM), (∀ i, i < l.length → L i = true) → Inv L t m → Q t m) :
    ∀ (f : Nat) (listed : Array Bool) (L : Nat → Bool) (t : Fm) (m : AM), listed.size = l.length → (∀ i, i < l.length → listed.getD i false = L i) → cntL L l.length ≤ f → Inv L t m → AWd P nt l.toArray Q f listed t m := by
  have hend : ∀ (listed : Array Bool) (L : Nat → Bool), listed.size = l.length → (∀ i, i < l.length → listed.getD i false = L i) → Region.ready .any l.toArray listed = [] → ∀ i, i < l.length → L i = true := by
    intro listed L hsz hL hr i
    induction i using Nat.strongRecOn with
    | _ i ih =>
      intro hi
      cases hl : L i with
      | true => rfl
      | false =>
        have hlt : i < listed.size := by omega
        have hli : listed.getD i false = false := by rw [hL i hi]; exact hl
        have hmem : i ∈ Region.ready .any l.toArray listed := mem_ready.2 ⟨by
          simp only [Array.getD_eq_getD_getElem?, Array.getElem?_eq_getElem hlt, Option.getD_some] at hli ⊢
          exact hli, l[i], by simp [hi], fun e he hb' => by
            have h1 := List.all_eq_true.1 hb i (List.mem_range.2 hi)
            rw [List.getElem?_eq_getElem hi] at h1
            have h2 := List.all_eq_true.1 h1 e.on (List.mem_map.2 ⟨e, List.mem_filter.2 ⟨by simpa using he, hb'⟩, rfl⟩)
            have h3 : e.on < i := by simpa using h2
            rw [hL e.on (by omega)]
            exact ih e.on h3 (by omega)⟩
        rw [hr] at hmem; cases hmem
  intro f
  induction f with
  | zero =>
    intro listed L t m hsz hL hc hI
    have hall := cntL_zero L l.length (by omega)
    refine ⟨?_, he L t m hall hI⟩
    cases hr : Region.ready .any l.toArray listed with
    | nil => rfl
    | cons i r =>
      obtain ⟨h1, o, h2, _⟩ := mem_ready.1 (show i ∈ Region.ready .any l.toArray listed by rw [hr]; simp)
      have hi : i < l.length := by have := (Array.getElem?_eq_some_iff.1 h2).1; simpa using this
      have h3 := hL i hi
      rw [hall i hi] at h3
      have hlt : i < listed.size := by omega
      simp only [Array.getD_eq_getD_getElem?, Array.getElem?_eq_getElem hlt, Option.getD_some] at h3 h1
      rw [h3] at h1; cases h1
  | succ f ih =>
    intro listed L t m hsz hL hc hI
    refine ⟨fun hr => he L t m (hend listed L hsz hL hr) hI, fun i hi o ho => ?_⟩
    obtain ⟨h1, o', h2, h3⟩ := mem_ready.1 hi
    rw [ho] at h2; injection h2 with h2; subst h2
    have ho' : l[i]? = some o := by simpa using ho
    have hil : i < l.length := (List.getElem?_eq_some_iff.1 ho').1
    have hlt : i < listed.size := by omega
    have hLi : L i = false := by
      rw [← hL i hil]
      simp only [Array.getD_eq_getD_getElem?, Array.getElem?_eq_getElem hlt, Option.getD_some] at h1 ⊢
      exact h1
    refine (hs i o ho' L t m hI hLi fun j hj => ?_).mono fun v m' hk => ?_
    · obtain ⟨e, e1, e2⟩ := List.mem_map.1 hj
      obtain ⟨e3, e4⟩ := List.mem_filter.1 e1
      have := h3 e (by simpa using e3) e4
      subst e2
      have hd := List.all_eq_true.1 hb i (List.mem_range.2 hil)
      rw [List.getElem?_eq_getElem hil] at hd
      have hoi : l[i] = o := by rw [List.getElem?_eq_getElem hil] at ho'; injection ho'
      rw [hoi] at hd
      have h5 := List.all_eq_true.1 hd e.on hj
      have h6 : e.on < i := by simpa using h5
      rw [← hL e.on (by omega)]; exact this
    · refine ih _ (upL L i) _ m' (by simpa using hsz) (fun j hj => ?_) (by have := cntL_up L i hLi l.length hil; omega) hk
      by_cases e : j = i
      · subst e
        rw [upL_same]; simp [hlt]
      · rw [upL_ne L e, ← hL j hj]
        simp only [Array.getD_eq_getD_getElem?]
        rw [Array.getElem?_setIfInBounds_ne (Ne.symm e)]
/-- A region that draws, by what holds whatever was done so far. -/
theorem AW.anyI (hP : Fit P) {id : Nat} {Q : AEx → Fm → AM → Prop} (Inv : (Nat → Bool) → Fm → AM → Prop) (hb : backB l = true) (h0 : Inv (fun _ => false) t m)
    (hs : ∀ (i : Nat) (o : Oper), l[i]? = some o → ∀ (L : Nat → Bool) (t : Fm) (m : AM), Inv L t m → L i = false → (∀ j ∈ depsO o, L j = true) → Step P nt l.toArray o t m (fun t m => Inv (upL L i) t m))
    (he : ∀ (L : Nat → Bool) (t : Fm) (m : AM), (∀ i, i < l.length → L i = true) → Inv L t m → Q .normal t m) : AW P nt m0 (.region id l.toArray true) t m Q :=
  .all hP (AWd.inv Inv hb hs he _ _ (fun _ => false) t m (by simp) (fun i hi => by simp [hi]) (by simpa using cntL_le (fun _ => false) l.length) h0)
end
end Go.Proofs.Ytajpngnphbdnnaa.Abs
namespace Go.Proofs.Ytajpngnphbdnnaa.Abs
set_option linter.unusedSimpArgs false
set_option linter.unusedVariables false
open Go.RowKit
open Go.Proofs.Ytajpngnphbdnnaa.Sim
section
variable {P : Program} {nt : Nat} {ops : Array Oper} {t : Fm} {m : AM} {K : Fm → AM → Prop} {d T : Nat} {p : String} {af : Array Edge}
theorem Step.allocG {ty : TypeId} {z : Array Value} (hz : zeroB P ty = some z) (hlt : Nat.blt d nt = true) (hK : K (put t d (.pointer (some ⟨m.length, 0, none⟩))) (m ++ [some { cells := z.toList }])) :
    Step P nt ops ⟨some d, .alloc ty, T, p, af, none⟩ t m K := by
  rw [← List.append_nil m]
  exact Step.alloc (M := m) (L := []) 0 rfl hz hlt rfl (by simpa using hK)
theorem Step.makeG {x y : Operand} {X : TypeId} {n : Nat} {kx ky : IntKind} {e : TypeId} {by_ : Nat} {z : Value} (hx : evo t x = some (.int kx ((n : Nat) : Int))) (hy : evo t y = some (.int ky ((n : Nat) : Int))) (he : elemB P X = some (e, 1, by_, #[z])) (hb : by_ * n ≤ 281474976710656 ∧ n ≤ 9223372036854775807)
    (hlt : Nat.blt d nt = true) (hK : K (put t d (.slice (some ⟨m.length, 0, none⟩) n n)) (m ++ [some { cells := List.replicate n z }])) : Step P nt ops ⟨some d, .makeSlice X x y, T, p, af, none⟩ t m K := by
  rw [← List.append_nil m]
  exact Step.make1 (M := m) (L := []) 0 rfl hx hy he hb hlt rfl (by simpa using hK)
/-- A variable is set as a whole. -/
theorem Step.storeG {x y : Operand} {ty : TypeId} {a n : Nat} {v : Value} {b : Blk} (hx : evo t x = some (.pointer (some ⟨a, 0, none⟩))) (hy : evo t y = some v) (hb : m[a]? = some (some b)) (hs : b.kind.solid = true) (hz : szB P ty = some n) (hc : v.cells.size = n) (h1 : v.cells.all (·.oneCell') = true) (ho : b.cells.length = n)
    (hK : K t (m.set a (some { b with cells := v.cells.toList }))) : Step P nt ops ⟨none, .store ty x y, T, p, af, none⟩ t m K := by
  have := Step.storeA (P := P) (nt := nt) (ops := ops) (T := T) (p := p) (af := af) (M := []) (L := m) (k := a) (ty := ty) (K := K) (by simpa using hx) hy hb hs hz hc h1 ho rfl (by simpa using hK)
  simpa using this
/-- One cell is set. -/
theorem Step.storeC {x y : Operand} {ty : TypeId} {a o : Nat} {v : Value} {b : Blk} (hx : evo t x = some (.pointer (some ⟨a, o, none⟩))) (hy : evo t y = some v) (hb : m[a]? = some (some b)) (hs : b.kind.solid = true) (hz : szB P ty = some 1) (hc : v.cells = #[v]) (h1 : v.oneCell' = true) (ho : o < b.cells.length)
    (hK : K t (m.set a (some { b with cells := b.cells.set o v }))) : Step P nt ops ⟨none, .store ty x y, T, p, af, none⟩ t m K := by
  have := Step.store (P := P) (nt := nt) (ops := ops) (T := T) (p := p) (af := af) (M := []) (L := m) (k := a) (ty := ty) (K := K) (by simpa using hx) hy hb hs hz hc h1 ho rfl (by simpa using hK)
  simpa using this
/-- One element is added to a growing slice: to nil, or to a block that may grow. -/
theorem Step.appN {x y : Operand} {X Y e e' : TypeId} {by_ r : Nat} {z : Array Value} {new : Value} (hx : evo t x = some (.slice none 0 0)) (hy : evo t y = some (.slice (some ⟨r, 0, none⟩) 1 1)) (hE : elemB P X = some (e, 1, by_, z)) (hY : P.underlying Y = some (.slice e'))
    (hr : m[r]? = some (some { cells := [new] })) (hn1 : new.oneCell' = true) (hb : Nat.ble by_ 1099511627776 = true) (hlt : Nat.blt d nt = true)
    (hK : K (put t d (.slice (some ⟨m.length, 0, none⟩) 1 1)) (m ++ [some { cells := [new], kind := .grow, size := 1 }])) :
    Step P nt ops ⟨some d, .call ⟨.builtin .append, #[x, y], #[X, Y]⟩, T, p, af, none⟩ t m K := by
  have hb' := Nat.le_of_ble_eq_true hb
  have h1 : K (put t d (.slice (some ⟨m.length + 0, 0, none⟩) 1 1)) (m ++ ([] ++ [some { cells := [new], kind := .grow, size := 1 }])) := by simpa using hK
  rw [← List.append_nil m] at hr ⊢
  refine .l rfl rfl hlt rfl (by simp [Op.operands, Call.operands, hx, hy]) (loudN (L := []) rfl rfl (v := .slice (some ⟨m.length + 0, 0, none⟩) 1 1) ?_ h1)
  have hcell : acells ((m ++ []) ++ [none]) 1 1 (.slice (some ⟨r, 0, none⟩) 1 1) = some [new] := by
    have hg : ((m ++ []) ++ [none])[r]? = some (some { cells := [new] }) := get_old _ hr
    simp only [acells, hg]
    simp
  simp only [aloud, evD_of hx, evD_of hy, aappend, hE, hY, aSliceLen, hcell]
  rw [if_neg (by simp [hn1]), if_neg (by omega), if_pos ⟨by omega, by omega⟩, set_new_at m [] rfl]
  simp
theorem Step.appB {x y : Operand} {X Y e e' : TypeId} {by_ s r n : Nat} {z : Array Value} {c : List Value} {new : Value} (hx : evo t x = some (.slice (some ⟨s, 0, none⟩) n n)) (hy : evo t y = some (.slice (some ⟨r, 0, none⟩) 1 1)) (hE : elemB P X = some (e, 1, by_, z)) (hY : P.underlying Y = some (.slice e'))
    (hq : m[s]? = some (some { cells := c, kind := .grow, size := 1 })) (hc : c.length = n) (hr : m[r]? = some (some { cells := [new] })) (hn1 : new.oneCell' = true) (hb : (n + 1) * by_ ≤ 1099511627776 ∧ n + 1 ≤ 1099511627776) (hlt : Nat.blt d nt = true)
    (hK : K (put t d (.slice (some ⟨m.length, 0, none⟩) (n + 1) (n + 1))) ((m.set s none) ++ [some { cells := c ++ [new], kind := .grow, size := 1 }])) :
    Step P nt ops ⟨some d, .call ⟨.builtin .append, #[x, y], #[X, Y]⟩, T, p, af, none⟩ t m K := by
  refine .l rfl rfl hlt rfl (by simp [Op.operands, Call.operands, hx, hy]) (loud_of_aloud (v := .slice (some ⟨m.length, 0, none⟩) (n + 1) (n + 1)) (m' := (m.set s none) ++ [some { cells := c ++ [new], kind := .grow, size := 1 }]) rfl ?_ hK)
  have hsl : s < m.length := (List.getElem?_eq_some_iff.1 hq).1
  have hcell : acells (m ++ [none]) 1 1 (.slice (some ⟨r, 0, none⟩) 1 1) = some [new] := by
    have hg : (m ++ [none])[r]? = some (some { cells := [new] }) := get_old _ hr
    simp only [acells, hg]
    simp
  have hg : (m ++ [none])[s]? = some (some { cells := c, kind := .grow, size := 1 }) := get_old _ hq
  simp only [aloud, evD_of hx, evD_of hy, aappend, hE, hY, aSliceLen, hcell]
  rw [if_neg (by simp [hn1]), if_neg (by omega)]
  simp only [hg]
  rw [if_neg (by omega), if_pos ⟨hb.1, hb.2, Nat.le_refl _⟩, if_pos ⟨by simp [hc], trivial⟩]
  simp only [List.drop_zero, Option.some.injEq, Prod.mk.injEq, true_and]
  rw [List.set_append_left _ _ hsl, List.set_append_right _ _ (by simp)]
  simp [List.take_of_length_le (show c.length ≤ n by omega)]
theorem still_nilP {X e : TypeId} (hX : P.underlying X = some (.pointer e)) (n : Nat) : Sim.still P (Op.equalIn (n + 1) X (.pointer none) (.pointer none)) = some true := by
  rw [Op.equalIn]
  show Sim.still P (Sem.bind (underlying X) _) = _
  rw [still_bind]
  have : Sim.still P (underlying X) = some (.pointer e) := by
    unfold underlying
    show Sim.still P (Sem.bind program _) = _
    rw [still_bind]
    simp [program, Sim.still, hX, pure]
  rw [this]
  rfl
theorem Step.ptrNil {x y : Operand} {X Y e : TypeId} (hx : evo t x = some (.pointer none)) (hy : evo t y = some (.pointer none)) (hX : P.underlying X = some (.pointer e)) (hlt : Nat.blt d nt = true) (hK : K (put t d (.bool true)) m) : Step P nt ops ⟨some d, .binOp .eql X x y Y, T, p, af, none⟩ t m K := by
  refine .ground rfl rfl hlt (by simp [Op.operands, hx, hy, g1, g0]) (fun h => by simp only [aquiet, evD_of hx, evD_of hy, aint, anil, hX]; simpa [evD_of hx, evD_of hy] using h) ?_ (by simp [g1, g0]) hK
  have he := still_nilP hX 9999
  simp only [execOp, eqGuard, binOp, evD_of hx, evD_of hy, bind, Sem.bind, pure]
  show Sim.still P (((Op.equalIn (9999 + 1) X (.pointer none) (.pointer none)).bind _).bind _) = _
  rw [still_bind, still_bind, he]
  rfl
theorem Step.ptrNot {x y : Operand} {X Y : TypeId} {a o : Nat} {e : TypeId} (hx : evo t x = some (.pointer (some ⟨a, o, none⟩))) (hy : evo t y = some (.pointer none)) (hX : P.underlying X = some (.pointer e)) (hlt : Nat.blt d nt = true) (hK : K (put t d (.bool false)) m) : Step P nt ops ⟨some d, .binOp .eql X x y Y, T, p, af, none⟩ t m K :=
  .q rfl rfl hlt (by simp [Op.operands, hx, hy]) (by simp [aquiet, evD_of hx, evD_of hy, aint, anil, hX, bEq]) hK
/-- A whole array of one's own as a slice. -/
theorem Step.arr {x : Operand} {X e a len : Nat} {M L L' : AM} (hx : evo t x = some (.pointer (some ⟨a, 0, none⟩))) (ho : OwnAt M a L) (hX : P.underlying X = some (.array len e)) (hsz : szB P e = some 1) (h0 : Nat.blt 0 len = true)
    (hlt : Nat.blt d nt = true) (hL : L ++ [none] = L') (hK : K (put t d (.slice (some ⟨a, 0, none⟩) len len)) (M ++ L')) : Step P nt ops ⟨some d, .slice X x none none none, T, p, af, none⟩ t (M ++ L) K := by
  subst hL
  obtain ⟨b, hb, hk⟩ := ho
  have h0' : 0 < len := by simpa using h0
  refine .l rfl rfl hlt (by simp [stillB, hX]) (by simp [Op.operands, hx]) (loudN (L := L) rfl rfl (v := .slice (some ⟨a, 0, none⟩) len len) ?_ hK)
  have hb' : ((M ++ L) ++ [none])[a]? = some (some b) := get_old _ hb
  simp only [aloud, evD_of hx, aslice, hX, hsz, Option.map_none, hb']
  simp only [bnd]
  rw [if_pos ⟨Nat.zero_le _, Nat.le_refl _, .inl hk⟩, List.append_assoc]
  simp
end
end Go.Proofs.Ytajpngnphbdnnaa.Abs
namespace Go.Proofs.Ytajpngnphbdnnaa.Abs
open Go.RowKit
open Go.Proofs.Ytajpngnphbdnnaa.Sim
/-- What a call made and does not return is let go. -/
theorem ACall.drop {P : Program} {f : FuncId} {args : Array Value} {m : AM} {r : Value} (hr : Ren rid m.length r r) (h : ACall P f args m (fun v m' => v = r ∧ ∃ N, m' = m ++ N)) : ACall P f args m (Ret r m) := by
  intro base R w args' hb hm ha
  refine (h base R w args' hb hm ha).mono ?_
  rintro e w' ⟨v, v', R', m', he, hrel, hpost, rfl, N, rfl⟩
  obtain ⟨R1, h1, h2⟩ := (Gc.drop (M := m) (L := N) (t := fr [(0, v)]) (l := [(0, v)]) ⟨⟨rfl, hr⟩, trivial⟩).ok hm hpost (nt := 1) (u := #[v']) ⟨rfl, fun i x hi => by
    by_cases e : i = 0
    · subst e
      have : some v = some x := hi
      injection this with this; subst this
      exact hrel
    · have : fr [(0, v)] i = none := by show put (fr []) 0 v i = none; rw [put_ne _ _ e]; rfl
      rw [this] at hi; cases hi⟩
  exact ⟨v, v', R1, m, he, h2.rel 0 v rfl, h1, rfl, rfl⟩
end Go.Proofs.Ytajpngnphbdnnaa.Abs
namespace Go.Proofs.Ytajpngnphbdnnaa.Abs
open Go.RowKit
open Go.Proofs.Ytajpngnphbdnnaa.Sim
theorem Ren.aggI {ρ : Nat → Nat} {n : Nat} (l : List Int) : Ren ρ n (.agg (iv l).toArray) (.agg (iv l).toArray) :=
  .agg _ _ rfl fun i hi => by
    have hi' : i < l.length := by simpa [iv] using hi
    have : (iv l).toArray.getD i undef = .int .i64 l[i] := by simp [iv, hi']
    rw [this]; exact .int _ _
end Go.Proofs.Ytajpngnphbdnnaa.Abs
namespace Go.Proofs.Ytajpngnphbdnnaa.Abs
open Go.RowKit
open Go.Proofs.Ytajpngnphbdnnaa.Sim
/-- A result that is read out of a variable. -/
theorem ares_cell {P : Program} {fn : Func} {t : Fm} {m : AM} {a i n : Nat} {ty : TypeId} {c : List Value} (hr : fn.results = #[.cell a ty]) (ht : t a = some (.pointer (some ⟨i, 0, none⟩))) (hg : aggB P ty = some true) (hn : szB P ty = some n) (h1 : RdL m i 0 c) (h3 : c.length = n) (hn1 : Nat.blt 0 n = true) :
    ares P fn t m = some (.agg c.toArray) := by
  obtain ⟨b, k1, k2⟩ := h1
  simp at hn1
  have hlast := k2 (n - 1) c[n - 1] (List.getElem?_eq_getElem (by omega))
  have hlen := (List.getElem?_eq_some_iff.1 hlast).1
  have hc : (b.cells.drop 0).take n = c := by
    apply List.ext_getElem?
    intro j
    by_cases hj : j < n
    · rw [List.getElem?_take, if_pos hj, List.getElem?_drop, k2 j c[j] (List.getElem?_eq_getElem (by omega)), List.getElem?_eq_getElem (by omega)]
    · rw [List.getElem?_take, if_neg hj, List.getElem?_eq_none (by omega)]
  have h0 : 0 + n ≤ b.cells.length := by omega
  have hl : aload P m ty (.pointer (some ⟨i, 0, none⟩)) = some (.agg c.toArray) := by simp only [aload, k1, hg, hn]; rw [if_pos h0, hc]
  have hL : aresL P t m fn.results.toList = some [.agg c.toArray] := by rw [hr]; simp only [aresL, ares1, ht, hl]
  unfold ares
  rw [hL]
end Go.Proofs.Ytajpngnphbdnnaa.Abs
namespace Go.Proofs.Ytajpngnphbdnnaa.Abs
set_option linter.unusedSimpArgs false
set_option linter.unusedVariables false
open Go.RowKit
open Go.Proofs.Ytajpngnphbdnnaa.Sim
open Go.Proofs
/-- A glove: its four numbers. -/
structure Gl where
  a : Int
  b : Int
  c : Int
  d : Int
instance : Inhabited Gl := ⟨⟨0, 0, 0, 0⟩⟩
def Gl.cells (x : Gl) : List Value := [.int .i64 x.a, .int .i64 x.b, .int .i64 x.c, .int .i64 x.d]
def Gl.g (x : Gl) : Nat → Int
  | 0 => x.a
  | 1 => x.b
  | 2 => x.c
  | _ => x.d
def Gl.v (x : Gl) : Value := .agg #[.int .i64 x.a, .int .i64 x.b, .int .i64 x.c, .int .i64 x.d]
theorem Gl.tab (x : Gl) : x.cells = iv (tab x.g 4) := rfl
/-- Valid. -/
def gB (x : Gl) : Bool := decide (0 ≤ x.a ∧ x.a ≤ 1000 ∧ 0 ≤ x.b ∧ x.b ≤ 1000 ∧ 0 ≤ x.c ∧ x.c ≤ 1000 ∧ 0 ≤ x.d ∧ x.d ≤ 1000)
theorem gB_iff {x : Gl} : gB x = true ↔ ∀ k, k < 4 → 0 ≤ x.g k ∧ x.g k ≤ 1000 := by
  simp only [gB, decide_eq_true_eq]
  constructor
  · intro h k hk
    rcases k with _ | _ | _ | _ | k
    · exact ⟨h.1, h.2.1⟩
    · exact ⟨h.2.2.1, h.2.2.2.1⟩
    · exact ⟨h.2.2.2.2.1, h.2.2.2.2.2.1⟩
    · exact ⟨h.2.2.2.2.2.2.1, h.2.2.2.2.2.2.2⟩
    · omega
  · intro h
    have h0 := h 0 (by omega)
    have h1 := h 1 (by omega)
    have h2 := h 2 (by omega)
    have h3 := h 3 (by omega)
    simp only [Gl.g] at h0 h1 h2 h3
    omega
/-- A rule: what differences count, and how great they may be. -/
structure Ru where
  w : Gl
  l : Gl
def Ru.cells (u : Ru) : List Value := u.w.cells ++ u.l.cells
def Ru.v (u : Ru) : Value := .agg #[.int .i64 u.w.a, .int .i64 u.w.b, .int .i64 u.w.c, .int .i64 u.w.d, .int .i64 u.l.a, .int .i64 u.l.b, .int .i64 u.l.c, .int .i64 u.l.d]
def uB (u : Ru) : Bool := gB u.w && gB u.l
theorem bl33 {a b c d : Int} : abuild Try.prog 33 [(0, .int .i64 a), (1, .int .i64 b), (2, .int .i64 c), (3, .int .i64 d)] = some (.agg #[.int .i64 a, .int .i64 b, .int .i64 c, .int .i64 d]) := by kernel_rfl
theorem bl113 {a b c d : Int} : abuild Try.prog 113 [(0, .int .i64 a), (1, .int .i64 b), (2, .int .i64 c), (3, .int .i64 d)] = some (.agg #[.int .i64 a, .int .i64 b, .int .i64 c, .int .i64 d]) := by kernel_rfl
theorem ze33 : zeroB Try.prog 33 = some #[.int .i64 0, .int .i64 0, .int .i64 0, .int .i64 0] := by kernel_rfl
theorem ze113 : zeroB Try.prog 113 = some #[.int .i64 0, .int .i64 0, .int .i64 0, .int .i64 0] := by kernel_rfl
theorem un113 : Try.prog.underlying 113 = some (.array 4 3) := by kernel_rfl
set_option maxRecDepth 100000 in
theorem measures_ok {m : AM} (x : Gl) : ACall Try.prog 95 #[x.v] m (Ret x.v m) := by
  refine ACall.drop (Ren.aggI [x.a, x.b, x.c, x.d]) ?_
  unfold Gl.v
  refine ACall.start Try.func95 rfl rfl ?_
  (repeat (first | (with_reducible refine AWo.cons ?_) | ((with_reducible refine Step.id ?_); first | ((with_reducible apply Step.load); exact rfl; (focus (decide +kernel)); exact rfl; (focus (exact Rd.new rfl rfl))) | ((with_reducible apply Step.field0); exact rfl; (focus (decide +kernel)); exact rfl) | ((with_reducible apply Step.field (k := 1)); exact rfl; (focus (decide +kernel)); exact rfl) | ((with_reducible apply Step.field (k := 2)); exact rfl; (focus (decide +kernel)); exact rfl) | ((with_reducible apply Step.field (k := 3)); exact rfl; (focus (decide +kernel)); exact rfl) | ((with_reducible apply Step.box 0); exact rfl; exact rfl; (focus (kernel_rfl)); exact rfl; (focus (first | (simp only [List.nil_append, List.cons_append, List.set_cons_zero, List.set_cons_succ, iv_set, bv_set, iv_rep, bv_rep]; done) | (simp only [List.nil_append, List.cons_append, List.set_cons_zero, List.set_cons_succ, iv_set, bv_set, iv_rep, bv_rep]; rfl) | rfl))) | ((with_reducible apply Step.alloc 1); exact rfl; exact ze113; exact rfl; (focus (first | (simp only [List.nil_append, List.cons_append, List.set_cons_zero, List.set_cons_succ, iv_set, bv_set, iv_rep, bv_rep]; done) | (simp only [List.nil_append, List.cons_append, List.set_cons_zero, List.set_cons_succ, iv_set, bv_set, iv_rep, bv_rep]; rfl) | rfl))) | ((with_reducible apply Step.storeA (k := 1) (n := 4)); exact rfl; exact rfl; exact rfl; exact rfl; (focus (decide +kernel)); exact rfl; (focus (kernel_rfl)); exact rfl; (focus (first | (simp only [List.nil_append, List.cons_append, List.set_cons_zero, List.set_cons_succ, iv_set, bv_set, iv_rep, bv_rep]; done) | (simp only [List.nil_append, List.cons_append, List.set_cons_zero, List.set_cons_succ, iv_set, bv_set, iv_rep, bv_rep]; rfl) | rfl))) | ((with_reducible apply Step.build); exact rfl; exact bl113; exact rfl)) | (with_reducible refine AWo.nil ?_) | ((with_reducible apply AW.seq)) | ((with_reducible apply Then.n)) | ((with_reducible apply AW.regL))))
  (refine AW.ret ?_; (repeat (first | refine Then.r ?_ | refine InBlk.r ?_)))
  exact ⟨_, ares_cell rfl rfl (by decide +kernel) (n := 4) (by decide +kernel) (RdL.new rfl rfl) rfl rfl, rfl, _, rfl⟩
set_option maxRecDepth 100000 in
theorem right_ok {m : AM} (x : Gl) {b : Bool} (hb : gB x = b) : ACall Try.prog 64 #[x.v] m (Ret (.bool b) m) := by
  have hx := measures_ok (m := m) x
  unfold Gl.v at *
  refine ACall.start Try.func64 rfl rfl ?_
  have hI : ∀ (b0 : Option Blk) (T : AM), Ints (m ++ (b0 :: some { cells := x.cells } :: T)) (.slice (some ⟨m.length + 1, 0, none⟩) 4 4) (tab x.g (3 + 1)) := fun b0 T => ints_new rfl rfl _ rfl
  have e1 : (0 ≤ minF x.g 3) = (0 ≤ x.a ∧ 0 ≤ x.b ∧ 0 ≤ x.c ∧ 0 ≤ x.d) := by simp only [minF, Gl.g]; apply propext; omega
  have e2 : (maxF x.g 3 ≤ 1000) = (x.a ≤ 1000 ∧ x.b ≤ 1000 ∧ x.c ≤ 1000 ∧ x.d ≤ 1000) := by simp only [maxF, Gl.g]; apply propext; omega
  have e3 : gB x = (decide (0 ≤ minF x.g 3) && decide (maxF x.g 3 ≤ 1000)) := by
    rw [gB, ← Bool.decide_and]
    apply decide_eq_decide.2
    rw [e1, e2]; omega
  rw [e3] at hb
  clear e1 e2 e3
  obtain ⟨lo, hlo⟩ : ∃ lo, minF x.g 3 = lo := ⟨_, rfl⟩
  obtain ⟨hi, hhi⟩ : ∃ hi, maxF x.g 3 = hi := ⟨_, rfl⟩
  rw [hlo, hhi] at hb
  have hmin : ∀ (b0 : Option Blk) (T : AM), ACall Try.prog 91 #[.slice (some ⟨m.length + 1, 0, none⟩) 4 4] (m ++ (b0 :: some { cells := x.cells } :: T)) (Ret (.int .i64 lo) (m ++ (b0 :: some { cells := x.cells } :: T))) := fun b0 T => by rw [← hlo]; exact min_ok (hI b0 T) (by omega)
  have hmax : ∀ (b0 : Option Blk) (T : AM), ACall Try.prog 96 #[.slice (some ⟨m.length + 1, 0, none⟩) 4 4] (m ++ (b0 :: some { cells := x.cells } :: T)) (Ret (.int .i64 hi) (m ++ (b0 :: some { cells := x.cells } :: T))) := fun b0 T => by rw [← hhi]; exact max_ok (hI b0 T) (by omega)
  subst hb
  by_cases c1 : 0 ≤ lo
  · (repeat (first | (with_reducible refine AWo.cons ?_) | ((with_reducible refine Step.id ?_); first | ((with_reducible apply Step.gdT); exact rfl; exact rfl; (focus ((simp only [decide_eq_true_eq, decide_eq_false_iff_not, Bool.not_eq_true', Bool.not_eq_false', Bool.not_true, Bool.not_false]; first | assumption | omega)))) | ((with_reducible apply Step.move); exact rfl; exact rfl) | ((with_reducible apply Step.assign); exact rfl; exact rfl) | ((with_reducible apply Step.loadL (n := 4)); exact rfl; (focus (decide +kernel)); (focus (decide +kernel)); exact rfl; (focus (exact RdL.new rfl rfl)); exact rfl; exact rfl) | ((with_reducible apply Step.arr); exact rfl; (focus (first | assumption | exact OwnAt.new rfl rfl)); exact un113; exact sz3; exact rfl; exact rfl; (focus (first | (simp only [List.nil_append, List.cons_append, List.set_cons_zero, List.set_cons_succ, iv_set, bv_set, iv_rep, bv_rep]; done) | (simp only [List.nil_append, List.cons_append, List.set_cons_zero, List.set_cons_succ, iv_set, bv_set, iv_rep, bv_rep]; rfl) | rfl))) | ((with_reducible apply Step.leq); exact rfl; exact rfl; exact rfl) | ((with_reducible apply Step.geq); exact rfl; exact rfl; exact rfl) | ((with_reducible apply Step.pickT); exact rfl; exact rfl; exact rfl; exact rfl; (focus ((simp only [decide_eq_true_eq, decide_eq_false_iff_not, Bool.not_eq_true', Bool.not_eq_false', Bool.not_true, Bool.not_false]; first | assumption | omega)))) | ((with_reducible apply Step.callR fit); exact rfl; exact Try.func95; exact rfl; exact rfl; exact (measures_ok x)) | ((with_reducible apply Step.callR fit); exact rfl; exact Try.func91; exact rfl; exact rfl; exact (hmin _ _)) | ((with_reducible apply Step.callR fit); exact rfl; exact Try.func96; exact rfl; exact rfl; exact (hmax _ _)) | ((with_reducible apply Step.box 0); exact rfl; exact rfl; (focus (kernel_rfl)); exact rfl; (focus (first | (simp only [List.nil_append, List.cons_append, List.set_cons_zero, List.set_cons_succ, iv_set, bv_set, iv_rep, bv_rep]; done) | (simp only [List.nil_append, List.cons_append, List.set_cons_zero, List.set_cons_succ, iv_set, bv_set, iv_rep, bv_rep]; rfl) | rfl))) | ((with_reducible apply Step.alloc 1); exact rfl; exact ze113; exact rfl; (focus (first | (simp only [List.nil_append, List.cons_append, List.set_cons_zero, List.set_cons_succ, iv_set, bv_set, iv_rep, bv_rep]; done) | (simp only [List.nil_append, List.cons_append, List.set_cons_zero, List.set_cons_succ, iv_set, bv_set, iv_rep, bv_rep]; rfl) | rfl))) | ((with_reducible apply Step.storeA (k := 1) (n := 4)); exact rfl; exact rfl; exact rfl; exact rfl; (focus (decide +kernel)); exact rfl; (focus (kernel_rfl)); exact rfl; (focus (first | (simp only [List.nil_append, List.cons_append, List.set_cons_zero, List.set_cons_succ, iv_set, bv_set, iv_rep, bv_rep]; done) | (simp only [List.nil_append, List.cons_append, List.set_cons_zero, List.set_cons_succ, iv_set, bv_set, iv_rep, bv_rep]; rfl) | rfl)))) | (with_reducible refine AWo.nil ?_) | ((with_reducible apply AW.seq)) | ((with_reducible apply Then.n)) | ((with_reducible apply AW.regL))))
    (refine AW.retD (l := [(2, _)]) (by repeat (first | exact trivial | (refine And.intro ⟨rfl, by (exact .bool _)⟩ ?_))) ?_; (repeat (first | refine Then.r ?_ | refine InBlk.r ?_)))
    exact ⟨_, rfl, by simp [c1], rfl⟩
  · (repeat (first | (with_reducible refine AWo.cons ?_) | ((with_reducible refine Step.id ?_); first | ((with_reducible apply Step.gdF); exact rfl; exact rfl; (focus ((simp only [decide_eq_true_eq, decide_eq_false_iff_not, Bool.not_eq_true', Bool.not_eq_false', Bool.not_true, Bool.not_false]; first | assumption | omega)))) | ((with_reducible apply Step.move); exact rfl; exact rfl) | ((with_reducible apply Step.assign); exact rfl; exact rfl) | ((with_reducible apply Step.loadL (n := 4)); exact rfl; (focus (decide +kernel)); (focus (decide +kernel)); exact rfl; (focus (exact RdL.new rfl rfl)); exact rfl; exact rfl) | ((with_reducible apply Step.arr); exact rfl; (focus (first | assumption | exact OwnAt.new rfl rfl)); exact un113; exact sz3; exact rfl; exact rfl; (focus (first | (simp only [List.nil_append, List.cons_append, List.set_cons_zero, List.set_cons_succ, iv_set, bv_set, iv_rep, bv_rep]; done) | (simp only [List.nil_append, List.cons_append, List.set_cons_zero, List.set_cons_succ, iv_set, bv_set, iv_rep, bv_rep]; rfl) | rfl))) | ((with_reducible apply Step.geq); exact rfl; exact rfl; exact rfl) | ((with_reducible apply Step.pickF); exact rfl; exact rfl; exact rfl; exact rfl; (focus ((simp only [decide_eq_true_eq, decide_eq_false_iff_not, Bool.not_eq_true', Bool.not_eq_false', Bool.not_true, Bool.not_false]; first | assumption | omega)))) | ((with_reducible apply Step.callR fit); exact rfl; exact Try.func95; exact rfl; exact rfl; exact (measures_ok x)) | ((with_reducible apply Step.callR fit); exact rfl; exact Try.func91; exact rfl; exact rfl; exact (hmin _ _)) | ((with_reducible apply Step.box 0); exact rfl; exact rfl; (focus (kernel_rfl)); exact rfl; (focus (first | (simp only [List.nil_append, List.cons_append, List.set_cons_zero, List.set_cons_succ, iv_set, bv_set, iv_rep, bv_rep]; done) | (simp only [List.nil_append, List.cons_append, List.set_cons_zero, List.set_cons_succ, iv_set, bv_set, iv_rep, bv_rep]; rfl) | rfl))) | ((with_reducible apply Step.alloc 1); exact rfl; exact ze113; exact rfl; (focus (first | (simp only [List.nil_append, List.cons_append, List.set_cons_zero, List.set_cons_succ, iv_set, bv_set, iv_rep, bv_rep]; done) | (simp only [List.nil_append, List.cons_append, List.set_cons_zero, List.set_cons_succ, iv_set, bv_set, iv_rep, bv_rep]; rfl) | rfl))) | ((with_reducible apply Step.storeA (k := 1) (n := 4)); exact rfl; exact rfl; exact rfl; exact rfl; (focus (decide +kernel)); exact rfl; (focus (kernel_rfl)); exact rfl; (focus (first | (simp only [List.nil_append, List.cons_append, List.set_cons_zero, List.set_cons_succ, iv_set, bv_set, iv_rep, bv_rep]; done) | (simp only [List.nil_append, List.cons_append, List.set_cons_zero, List.set_cons_succ, iv_set, bv_set, iv_rep, bv_rep]; rfl) | rfl)))) | (with_reducible refine AWo.nil ?_) | ((with_reducible apply AW.seq)) | ((with_reducible apply Then.n)) | ((with_reducible apply AW.regL))))
    (refine AW.retD (l := [(2, _)]) (by repeat (first | exact trivial | (refine And.intro ⟨rfl, by (exact .bool _)⟩ ?_))) ?_; (repeat (first | refine Then.r ?_ | refine InBlk.r ?_)))
    exact ⟨_, rfl, by simp [c1], rfl⟩
end Go.Proofs.Ytajpngnphbdnnaa.Abs
