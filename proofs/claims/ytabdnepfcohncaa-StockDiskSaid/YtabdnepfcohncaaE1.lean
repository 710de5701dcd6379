import Derived.Test.YtabdnepfcohncaaObj
namespace Go.Proofs.Ytabdnepfcohncaa
open Go.RowKit
set_option linter.unusedVariables false
set_option linter.unusedSimpArgs false
/-- 'Left' of the reference's disk. -/
def leftOf : Option Nat → Int
  | none => -1
  | some k => k
/-- The reference's disk at block g. -/
structure DR (w : World) (g : Nat) (m : DM) (A0 : Option Addr) (c0 : Nat) (A1 : Option Addr) (c1 : Nat) : Prop where
  blk : Blk w g 147 #[.int .i64 m.most, .slice A0 m.l0.length c0, .slice A1 m.l1.length c1, .int .i64 m.s0, .int .i64 m.s1, .bool m.off, .int .i64 (leftOf m.fuse)]
  r0 : RB w w.heap.size A0 m.l0.length m.l0
  r1 : RB w w.heap.size A1 m.l1.length m.l1
  n0 : ∀ ad, A0 = some ad → ad.block ≠ g
  n1 : ∀ ad, A1 = some ad → ad.block ≠ g
  k0 : m.l0.length ≤ c0
  k1 : m.l1.length ≤ c1
  z0 : c0 ≤ maxLen
  z1 : c1 ≤ maxLen
  ok : m.Ok
def DiskR (w : World) (g : Nat) (m : DM) (fp : Nat → Prop) : Prop :=
  ∃ A0 c0 A1 c1, DR w g m A0 c0 A1 c1 ∧ fp g ∧ (∀ ad, A0 = some ad → fp ad.block) ∧ (∀ ad, A1 = some ad → fp ad.block)
section
variable {w w' : World} {g : Nat} {m : DM} {A0 A1 : Option Addr} {c0 c1 : Nat}
theorem DR.cells (h : DR w g m A0 c0 A1 c1) : w.cell? ⟨g, 0, none⟩ = some (.int .i64 m.most) ∧ w.cell? ⟨g, 1, none⟩ = some (.slice A0 m.l0.length c0) ∧ w.cell? ⟨g, 2, none⟩ = some (.slice A1 m.l1.length c1) ∧
    w.cell? ⟨g, 3, none⟩ = some (.int .i64 m.s0) ∧ w.cell? ⟨g, 4, none⟩ = some (.int .i64 m.s1) ∧ w.cell? ⟨g, 5, none⟩ = some (.bool m.off) ∧ w.cell? ⟨g, 6, none⟩ = some (.int .i64 (leftOf m.fuse)) :=
  ⟨h.blk.cell 0, h.blk.cell 1, h.blk.cell 2, h.blk.cell 3, h.blk.cell 4, h.blk.cell 5, h.blk.cell 6⟩
theorem DR.fz (h : DR w g m A0 c0 A1 c1) (i : Nat) : w.frozen? ⟨g, i, none⟩ = false := h.blk.frozen i
theorem DR.drewN (h : DR w g m A0 c0 A1 c1) (n : Nat) : DR (w.drewN n) g m A0 c0 A1 c1 := ⟨h.blk, h.r0, h.r1, h.n0, h.n1, h.k0, h.k1, h.z0, h.z1, h.ok⟩
theorem DiskR.drewN {fp : Nat → Prop} (h : DiskR w g m fp) (n : Nat) : DiskR (w.drewN n) g m fp := by
  obtain ⟨A0, c0, A1, c1, hd, h1⟩ := h
  exact ⟨A0, c0, A1, c1, hd.drewN n, h1⟩
/-- The readings stand while the disk's own block is written. -/
theorem DR.rset (h : DR w g m A0 c0 A1 c1) (k : Keeps w w' (· = g)) : RB w' w'.heap.size A0 m.l0.length m.l0 ∧ RB w' w'.heap.size A1 m.l1.length m.l1 :=
  ⟨(h.r0.keeps k (Nat.le_refl _) (fun _ ad e => h.n0 ad e)).more k.size, (h.r1.keeps k (Nat.le_refl _) (fun _ ad e => h.n1 ad e)).more k.size⟩
end
theorem done_any {w : World} {g : Nat} {m : DM} {A0 A1 : Option Addr} {c0 c1 : Nat} (h : DR w g m A0 c0 A1 c1) :
    Calls Try.prog 125 #[.pointer (some ⟨g, 0, none⟩)] w fun e w' => e = .returned (.bool m.spend.1) ∧ DR w' g m.spend.2 A0 c0 A1 c1 ∧ Keeps w w' (· = g) := by
  obtain ⟨k0, k1, k2, k3, k4, k5, k6⟩ := h.cells
  have f5 := h.fz 5
  have f6 := h.fz 6
  have hok := h.ok
  cases hf : m.fuse with
  | none =>
    rw [hf] at k6
    have k6' : w.cell? ⟨g, 6, none⟩ = some (.int .i64 (-1)) := k6
    have hs : m.spend = (!m.off, m) := by unfold DM.spend; cases h1 : m.off <;> simp [hf]
    rw [hs]
    clear hf k6 hs
    cases ho : m.off with
    | true =>
      rw [ho] at k5
      clear ho
      go_enter Try.func125, Try.ntmps125
      go_wp2
      go_ret
      exact ⟨rfl, h, Keeps.refl _ _⟩
    | false =>
      rw [ho] at k5
      clear ho
      go_enter Try.func125, Try.ntmps125
      go_wp2
      go_ret
      exact ⟨rfl, h, Keeps.refl _ _⟩
  | some k =>
    rw [hf] at k6
    have hkb := hok.f k hf
    cases k with
    | zero =>
      have k6' : w.cell? ⟨g, 6, none⟩ = some (.int .i64 0) := k6
      have hs : m.spend = (false, { m with off := true }) := by unfold DM.spend; cases h1 : m.off <;> simp [hf, h1]; cases m; simp_all
      rw [hs]
      have HF := Lib.hid hf
      clear hf k6 hs
      obtain ⟨q0, q1⟩ := h.rset (keeps_set w g 5 (.bool true))
      go_enter Try.func125, Try.ntmps125
      go_wp2
      go_ret
      exact ⟨rfl, ⟨h.blk.set_ 5 (.bool true), q0, q1, h.n0, h.n1, h.k0, h.k1, h.z0, h.z1, ⟨hok.m0, hok.m1, hok.a0, hok.a1, hok.b0, hok.b1, hok.f⟩⟩, keeps_set _ _ _ _⟩
    | succ k =>
      have k6' : w.cell? ⟨g, 6, none⟩ = some (.int .i64 ((k : Int) + 1)) := k6
      have hz : (((k : Int) + 1) == 0) = false := by simp; omega
      have hp : (0 : Int) < (k : Int) + 1 := by omega
      cases ho : m.off with
      | true =>
        have hs : m.spend = (false, m) := by unfold DM.spend; simp [ho]
        rw [hs]
        rw [ho] at k5
        clear hf k6 hs ho
        go_enter Try.func125, Try.ntmps125
        go_wp2
        go_ret
        exact ⟨rfl, h, Keeps.refl _ _⟩
      | false =>
        have hs : m.spend = (true, { m with fuse := some k }) := by unfold DM.spend; simp [ho, hf]
        rw [hs]
        rw [ho] at k5
        have HF := Lib.hid hf
        clear hf k6 hs ho
        obtain ⟨q0, q1⟩ := h.rset (keeps_set w g 6 (.int .i64 k))
        have B6 := h.blk.set_ 6 (.int .i64 k)
        go_enter Try.func125, Try.ntmps125
        go_wp2
        go_ret
        refine ⟨rfl, ⟨?_, q0, q1, h.n0, h.n1, h.k0, h.k1, h.z0, h.z1, ⟨hok.m0, hok.m1, hok.a0, hok.a1, hok.b0, hok.b1, ?_⟩⟩, keeps_set _ _ _ _⟩
        · rw [HF.out] at B6; exact B6
        · intro j hj; injection hj with hj; omega
theorem keeps_of_below_set {w w3 : World} {g i : Nat} {u : Value} (hb : Below w.heap.size w w3) : Keeps w (w3.setCell ⟨g, i, none⟩ u) (· = g) :=
  (Keeps.of_below (fp := (· = g)) hb).setCell (p := ⟨g, i, none⟩) (.inl rfl) u
theorem DR.put0 {w w3 : World} {g : Nat} {m : DM} {A0 A1 A : Option Addr} {c0 c1 c : Nat} {l : List UInt8} {fp : Nat → Prop} (h : DR w g m A0 c0 A1 c1) (hf : fp g) (hf1 : ∀ ad, A1 = some ad → fp ad.block)
    (hb : Below w.heap.size w w3) (hr : RB w3 w3.heap.size A l.length l) (hA : ∀ ad, A = some ad → w.heap.size ≤ ad.block ∧ ad.block < w3.heap.size) (hc : l.length ≤ c) (hz : c ≤ maxLen) (hl : l.length ≤ m.most) (hs : m.s0 ≤ l.length) :
    ∃ fp', DiskR (w3.setCell ⟨g, 1, none⟩ (.slice A l.length c)) g { m with l0 := l } fp' ∧ Stp w (w3.setCell ⟨g, 1, none⟩ (.slice A l.length c)) fp fp' := by
  have hg := h.blk.lt
  have hk := keeps_of_below_set (g := g) (i := 1) (u := .slice A l.length c) hb
  refine ⟨fun k => fp k ∨ (w.heap.size ≤ k ∧ k < w3.heap.size), ⟨A, c, A1, c1, ⟨(h.blk.below hb hg).set_ 1 _, ?_, (h.rset hk).2, ?_, h.n1, hc, h.k1, hz, h.z1, ⟨h.ok.m0, h.ok.m1, hl, h.ok.a1, hs, h.ok.b1, h.ok.f⟩⟩, .inl hf, fun ad e => .inr (hA ad e), fun ad e => .inl (hf1 ad e)⟩, ?_, ?_⟩
  · have := RB.keeps (fp := (· = g)) hr (keeps_set w3 g 1 (.slice A l.length c)) (Nat.le_refl _) (fun _ ad e e2 => by have := hA ad e; omega)
    exact this.more (by simp [World.setCell])
  · intro ad e e2; have := hA ad e; omega
  · exact hk.mono (fun k hk => by rw [hk]; exact hf)
  · rintro k (hk | hk)
    · exact .inl hk
    · exact .inr ⟨hk.1, by simpa [World.setCell] using hk.2⟩
theorem DR.put1 {w w3 : World} {g : Nat} {m : DM} {A0 A1 A : Option Addr} {c0 c1 c : Nat} {l : List UInt8} {fp : Nat → Prop} (h : DR w g m A0 c0 A1 c1) (hf : fp g) (hf0 : ∀ ad, A0 = some ad → fp ad.block)
    (hb : Below w.heap.size w w3) (hr : RB w3 w3.heap.size A l.length l) (hA : ∀ ad, A = some ad → w.heap.size ≤ ad.block ∧ ad.block < w3.heap.size) (hc : l.length ≤ c) (hz : c ≤ maxLen) (hl : l.length ≤ m.most) (hs : m.s1 ≤ l.length) :
    ∃ fp', DiskR (w3.setCell ⟨g, 2, none⟩ (.slice A l.length c)) g { m with l1 := l } fp' ∧ Stp w (w3.setCell ⟨g, 2, none⟩ (.slice A l.length c)) fp fp' := by
  have hg := h.blk.lt
  have hk := keeps_of_below_set (g := g) (i := 2) (u := .slice A l.length c) hb
  refine ⟨fun k => fp k ∨ (w.heap.size ≤ k ∧ k < w3.heap.size), ⟨A0, c0, A, c, ⟨(h.blk.below hb hg).set_ 2 _, (h.rset hk).1, ?_, h.n0, ?_, h.k0, hc, h.z0, hz, ⟨h.ok.m0, h.ok.m1, h.ok.a0, hl, h.ok.b0, hs, h.ok.f⟩⟩, .inl hf, fun ad e => .inl (hf0 ad e), fun ad e => .inr (hA ad e)⟩, ?_, ?_⟩
  · have := RB.keeps (fp := (· = g)) hr (keeps_set w3 g 2 (.slice A l.length c)) (Nat.le_refl _) (fun _ ad e e2 => by have := hA ad e; omega)
    exact this.more (by simp [World.setCell])
  · intro ad e e2; have := hA ad e; omega
  · exact hk.mono (fun k hk => by rw [hk]; exact hf)
  · rintro k (hk | hk)
    · exact .inl hk
    · exact .inr ⟨hk.1, by simpa [World.setCell] using hk.2⟩
theorem OB.blk_lt {w : World} {base n c : Nat} {A : Option Addr} {l : List UInt8} (h : OB w base (.slice A n c) l) : ∀ ad, A = some ad → base ≤ ad.block ∧ ad.block < w.heap.size := by
  intro ad e
  exact h.lt ad.block (by rw [e]; rfl)
end Go.Proofs.Ytabdnepfcohncaa
