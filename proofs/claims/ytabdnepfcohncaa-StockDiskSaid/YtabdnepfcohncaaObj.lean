/- Objects in memory by their footprint: what a call may have turned, and what is kept. -/
import Derived.Test.YtabdnepfcohncaaT5
namespace Go.Proofs.Ytabdnepfcohncaa
open Go.RowKit
set_option linter.unusedVariables false
/-- Of what was there, only blocks of 'fp' may have turned. -/
structure Keeps (w w' : World) (fp : Nat → Prop) : Prop where
  os : w'.os = w.os
  tape : w'.tape = w.tape
  output : w'.output = w.output
  size : w.heap.size ≤ w'.heap.size
  block : ∀ k, k < w.heap.size → ¬ fp k → w'.heap[k]? = w.heap[k]?
/-- A step from footprint fp to footprint fp'. -/
structure Stp (w w' : World) (fp fp' : Nat → Prop) : Prop where
  keeps : Keeps w w' fp
  sub : ∀ k, fp' k → fp k ∨ (w.heap.size ≤ k ∧ k < w'.heap.size)
section
variable {w w' w'' : World} {fp fp' fp'' : Nat → Prop}
theorem Keeps.refl (w : World) (fp : Nat → Prop) : Keeps w w fp := ⟨rfl, rfl, rfl, Nat.le_refl _, fun _ _ _ => rfl⟩
theorem Keeps.of_below (h : Below w.heap.size w w') : Keeps w w' fp := ⟨h.os, h.tape, h.output, h.size, fun k hk _ => h.block k hk⟩
theorem Keeps.alloc (h : Keeps w w' fp) (o : Obj) : Keeps w (w'.alloc o) fp :=
  ⟨h.os, h.tape, h.output, Nat.le_trans h.size (by simp), fun k hk hn => (Below.heap_alloc w' o k (Nat.lt_of_lt_of_le hk h.size)).trans (h.block k hk hn)⟩
theorem Keeps.setCell (h : Keeps w w' fp) {p : Addr} (hp : fp p.block ∨ w.heap.size ≤ p.block) (u : Value) : Keeps w (w'.setCell p u) fp :=
  ⟨h.os, h.tape, h.output, by simpa [World.setCell] using h.size, fun k hk hn => (Below.heap_setCell w' p u k (by
    rintro rfl
    rcases hp with hp | hp
    · exact hn hp
    · omega)).trans (h.block k hk hn)⟩
theorem Keeps.drewN (h : Keeps w w' fp) (n : Nat) : Keeps w (w'.drewN n) fp := ⟨h.os, h.tape, h.output, h.size, h.block⟩
theorem Keeps.drew (h : Keeps w w' fp) : Keeps w w'.drew fp := ⟨h.os, h.tape, h.output, h.size, h.block⟩
theorem Keeps.then_ (h : Keeps w w' fp) (k : Keeps w' w'' fp') (hs : ∀ i, fp' i → fp i ∨ w.heap.size ≤ i) : Keeps w w'' fp :=
  ⟨k.os.trans h.os, k.tape.trans h.tape, k.output.trans h.output, Nat.le_trans h.size k.size, fun i hi hn =>
    (k.block i (Nat.lt_of_lt_of_le hi h.size) (fun e => by rcases hs i e with h1 | h1; exact hn h1; omega)).trans (h.block i hi hn)⟩
theorem Keeps.of_up {v v' : Value} (h : Up w v w' v') (hv : ∀ k, v.ownBlock = some k → fp k) : Keeps w w' fp :=
  ⟨h.grown.os, h.grown.tape, h.grown.output, h.size, fun k hk hn => h.grown.block k hk (fun e => hn (hv k e.symm))⟩
theorem Keeps.mono (h : Keeps w w' fp) (hs : ∀ k, fp k → fp' k) : Keeps w w' fp' := ⟨h.os, h.tape, h.output, h.size, fun k hk hn => h.block k hk fun e => hn (hs k e)⟩
theorem Keeps.below {base : Nat} (h : Keeps w w' fp) (hb : base ≤ w.heap.size) (hf : ∀ k, fp k → base ≤ k) : Below base w w' :=
  ⟨h.os, h.tape, h.output, h.size, fun k hk => h.block k (by omega) (fun e => by have := hf k e; omega)⟩
theorem Stp.refl (w : World) (fp : Nat → Prop) : Stp w w fp fp := ⟨Keeps.refl _ _, fun _ h => .inl h⟩
theorem Stp.trans (h : Stp w w' fp fp') (k : Stp w' w'' fp' fp'') : Stp w w'' fp fp'' :=
  ⟨h.keeps.then_ k.keeps (fun i hi => (h.sub i hi).imp id And.left), fun i hi => by
    have s1 := h.keeps.size
    have s2 := k.keeps.size
    rcases k.sub i hi with h1 | h1
    · rcases h.sub i h1 with h2 | h2
      · exact .inl h2
      · exact .inr (by omega)
    · exact .inr (by omega)⟩
theorem Stp.lt (h : Stp w w' fp fp') (hf : ∀ k, fp k → k < w.heap.size) : ∀ k, fp' k → k < w'.heap.size := fun k hk => by
  have s1 := h.keeps.size
  rcases h.sub k hk with h1 | h1
  · have := hf k h1; omega
  · exact h1.2
theorem Stp.ge {base : Nat} (h : Stp w w' fp fp') (hb : base ≤ w.heap.size) (hf : ∀ k, fp k → base ≤ k) : ∀ k, fp' k → base ≤ k := fun k hk => by
  rcases h.sub k hk with h1 | h1
  · exact hf k h1
  · omega
/-- Another footprint that lies in the elder world stays apart. -/
theorem Stp.apart {fq : Nat → Prop} (h : Stp w w' fp fp') (hq : ∀ k, fq k → k < w.heap.size) (hd : ∀ k, fp k → ¬ fq k) : ∀ k, fp' k → ¬ fq k := fun k hk hq' => by
  rcases h.sub k hk with h1 | h1
  · exact hd k h1 hq'
  · have := hq k hq'; omega
theorem Blk.keeps {g : Nat} {t : TypeId} {cs : Array Value} (h : Blk w g t cs) (k : Keeps w w' fp) (hg : ¬ fp g) : Blk w' g t cs := (k.block g h.lt hg).trans h
theorem RB.keeps {B n : Nat} {A : Option Addr} {l : List UInt8} (h : RB w B A n l) (k : Keeps w w' fp) (hB : B ≤ w.heap.size) (hg : 0 < n → ∀ ad, A = some ad → ¬ fp ad.block) : RB w' B A n l := by
  refine ⟨h.1, fun hn => ?_⟩
  obtain ⟨ad, rfl, hb, hc⟩ := h.2 hn
  refine ⟨ad, rfl, hb, fun j u hu => ?_⟩
  refine (World.cell?_of_block (k.block _ ?_ ?_)).trans (hc j u hu)
  · rw [block_of_add]; omega
  · rw [block_of_add]; exact hg hn ad rfl
theorem OB.keeps {base : Nat} {v : Value} {l : List UInt8} (h : OB w base v l) (k : Keeps w w' fp) (hg : ∀ i, v.ownBlock = some i → ¬ fp i) : OB w' base v l := by
  refine ⟨h.1, ?_⟩
  rcases h.2 with h2 | ⟨g, cap, cur, rfl, hb, hh, r⟩
  · exact .inl h2
  · exact .inr ⟨g, cap, cur, rfl, hb, by rw [k.block g (Array.getElem?_eq_some_iff.1 hh).1 (hg g rfl)]; exact hh, r⟩
end
theorem keeps_set (w : World) (g i : Nat) (u : Value) : Keeps w (w.setCell ⟨g, i, none⟩ u) (· = g) := (Keeps.refl w (· = g)).setCell (p := ⟨g, i, none⟩) (.inl rfl) _
theorem keeps_draw (w : World) (n : Nat) (fp : Nat → Prop) : Keeps w (w.drewN n) fp := ⟨rfl, rfl, rfl, Nat.le_refl _, fun _ _ _ => rfl⟩
theorem stp_draw (w : World) (n : Nat) (fp : Nat → Prop) : Stp w (w.drewN n) fp fp := ⟨keeps_draw w n fp, fun _ h => .inl h⟩
/-- The block that a slice leads to. -/
def blkOf (A : Option Addr) : Option Nat := A.map (·.block)
theorem own_blkOf (A : Option Addr) (n c : Nat) : (Value.slice A n c).ownBlock = blkOf A := by cases A <;> rfl
/-- An owned row is of bytes: a block of another element type is another block. -/
theorem OB.ne_blk' {w : World} {base g n c : Nat} {A : Option Addr} {l : List UInt8} {t : TypeId} {cs : Array Value} (h : OB w base (.slice A n c) l) (hg : Blk w g t cs) (hne : 5 ≠ t) : blkOf A ≠ some g := by
  rw [← own_blkOf A n c]; exact own_blk_ne h hg hne
theorem OB.keeps' {w w' : World} {fp : Nat → Prop} {base n c : Nat} {A : Option Addr} {l : List UInt8} (h : OB w base (.slice A n c) l) (k : Keeps w w' fp) (hg : ∀ i, blkOf A = some i → ¬ fp i) : OB w' base (.slice A n c) l :=
  h.keeps k (fun i hi => hg i (by rw [← own_blkOf A n c]; exact hi))
theorem OB.ne_blk {w : World} {base g : Nat} {v : Value} {l : List UInt8} {t : TypeId} {cs : Array Value} (h : OB w base v l) (hg : Blk w g t cs) (hne : 5 ≠ t) : v.ownBlock ≠ some g := own_blk_ne h hg hne
theorem Calls.spread {P : Program} {f : FuncId} {args : Array Value} {w : World} {R R' : Ending → World → Prop} (h : Calls P f args w R) (hr : ∀ e w', R e w' → R' e w') : Calls P f args w R' := h.mono hr

/-! The disk as the document has it. -/
structure DM where
  most : Nat
  off : Bool
  fuse : Option Nat
  l0 : List UInt8
  s0 : Nat
  l1 : List UInt8
  s1 : Nat
structure DM.Ok (m : DM) : Prop where
  m0 : 64 ≤ m.most
  m1 : m.most ≤ 1048576
  a0 : m.l0.length ≤ m.most
  a1 : m.l1.length ≤ m.most
  b0 : m.s0 ≤ m.l0.length
  b1 : m.s1 ≤ m.l1.length
  f : ∀ k, m.fuse = some k → k ≤ 9223372036854775807
def DM.spend (m : DM) : Bool × DM :=
  if m.off then (false, m) else
  match m.fuse with
  | none => (true, m)
  | some 0 => (false, { m with off := true })
  | some (k + 1) => (true, { m with fuse := some k })
def DM.append (m : DM) (n : Int) (b : List UInt8) : Int × DM :=
  if n = 0 then
    if m.most < m.l0.length + b.length then (13, m) else
    if m.spend.1 then (0, { m.spend.2 with l0 := m.l0 ++ b }) else (14, m.spend.2)
  else if n = 1 then
    if m.most < m.l1.length + b.length then (13, m) else
    if m.spend.1 then (0, { m.spend.2 with l1 := m.l1 ++ b }) else (14, m.spend.2)
  else (2, m)
def DM.sync (m : DM) (n : Int) : Int × DM :=
  if n = 0 then if m.spend.1 then (0, { m.spend.2 with s0 := m.l0.length }) else (14, m.spend.2)
  else if n = 1 then if m.spend.1 then (0, { m.spend.2 with s1 := m.l1.length }) else (14, m.spend.2)
  else (2, m)
def DM.clear (m : DM) (n : Int) : Int × DM :=
  if n = 0 then if m.spend.1 then (0, { m.spend.2 with l0 := [], s0 := 0 }) else (14, m.spend.2)
  else if n = 1 then if m.spend.1 then (0, { m.spend.2 with l1 := [], s1 := 0 }) else (14, m.spend.2)
  else (2, m)
def DM.read (m : DM) (n : Int) : List UInt8 × Int :=
  if n = 0 ∨ n = 1 then if m.off then ([], 14) else (if n = 0 then m.l0 else m.l1, 0) else ([], 2)
def DM.setFuse (m : DM) (k : Int) : DM := { m with fuse := if 0 ≤ k then some k.toNat else none }
def cut (l : List UInt8) (s : Nat) (keep : Int) : Nat := s + min keep.toNat (l.length - s)
def DM.crash (m : DM) (k0 k1 : Int) : DM :=
  { m with off := false, fuse := none, l0 := m.l0.take (cut m.l0 m.s0 k0), s0 := cut m.l0 m.s0 k0, l1 := m.l1.take (cut m.l1 m.s1 k1), s1 := cut m.l1 m.s1 k1 }
def DM.new (most : Nat) : DM := ⟨most, false, none, [], 0, [], 0⟩
theorem DM.spend_same (m : DM) : m.spend.2.most = m.most ∧ m.spend.2.l0 = m.l0 ∧ m.spend.2.s0 = m.s0 ∧ m.spend.2.l1 = m.l1 ∧ m.spend.2.s1 = m.s1 := by
  unfold DM.spend
  split
  · simp
  · split <;> simp
theorem DM.Ok.spend {m : DM} (h : m.Ok) : m.spend.2.Ok := by
  obtain ⟨e1, e2, e3, e4, e5⟩ := m.spend_same
  refine ⟨by rw [e1]; exact h.m0, by rw [e1]; exact h.m1, by rw [e1, e2]; exact h.a0, by rw [e1, e4]; exact h.a1, by rw [e2, e3]; exact h.b0, by rw [e4, e5]; exact h.b1, ?_⟩
  intro k hk
  unfold DM.spend at hk
  split at hk
  · exact h.f k hk
  · split at hk
    · exact h.f k hk
    · exact h.f k hk
    · rename_i j hj
      have := h.f _ hj
      simp at hk
      omega
theorem cut_le {l : List UInt8} {s : Nat} (k : Int) (h : s ≤ l.length) : cut l s k ≤ l.length ∧ s ≤ cut l s k := by unfold cut; omega
theorem DM.Ok.crash {m : DM} (h : m.Ok) (k0 k1 : Int) : (m.crash k0 k1).Ok := by
  have h0 := cut_le k0 h.b0
  have h1 := cut_le k1 h.b1
  have := h.a0
  have := h.a1
  exact ⟨h.m0, h.m1, by simp [DM.crash]; omega, by simp [DM.crash]; omega, by simp [DM.crash]; omega, by simp [DM.crash]; omega, by simp [DM.crash]⟩
theorem DM.Ok.fuse {m : DM} (h : m.Ok) (k : Int) (hk : k ≤ 9223372036854775807) : (m.setFuse k).Ok :=
  ⟨h.m0, h.m1, h.a0, h.a1, h.b0, h.b1, by
    intro j hj
    unfold DM.setFuse at hj
    split at hj
    · simp at hj; omega
    · simp at hj⟩
theorem DM.Ok.clear {m : DM} (h : m.Ok) (n : Int) : (m.clear n).2.Ok := by
  have hs := h.spend
  unfold DM.clear
  split
  · split
    · exact ⟨hs.m0, hs.m1, by simp, hs.a1, by simp, hs.b1, hs.f⟩
    · exact hs
  · split
    · split
      · exact ⟨hs.m0, hs.m1, hs.a0, by simp, hs.b0, by simp, hs.f⟩
      · exact hs
    · exact h
theorem DM.Ok.sync {m : DM} (h : m.Ok) (n : Int) : (m.sync n).2.Ok := by
  have hs := h.spend
  obtain ⟨e1, e2, e3, e4, e5⟩ := m.spend_same
  unfold DM.sync
  split
  · split
    · exact ⟨hs.m0, hs.m1, hs.a0, hs.a1, by simp [e2], hs.b1, hs.f⟩
    · exact hs
  · split
    · split
      · exact ⟨hs.m0, hs.m1, hs.a0, hs.a1, hs.b0, by simp [e4], hs.f⟩
      · exact hs
    · exact h
theorem DM.Ok.append {m : DM} (h : m.Ok) (n : Int) (b : List UInt8) : (m.append n b).2.Ok := by
  have hs := h.spend
  obtain ⟨e1, e2, e3, e4, e5⟩ := m.spend_same
  have := h.b0
  have := h.b1
  unfold DM.append
  split
  · split
    · exact h
    · split
      · exact ⟨hs.m0, hs.m1, by simp [e1]; omega, hs.a1, by simp [e3]; omega, hs.b1, hs.f⟩
      · exact hs
  · split
    · split
      · exact h
      · split
        · exact ⟨hs.m0, hs.m1, hs.a0, by simp [e1]; omega, hs.b0, by simp [e5]; omega, hs.f⟩
        · exact hs
    · exact h
end Go.Proofs.Ytabdnepfcohncaa
