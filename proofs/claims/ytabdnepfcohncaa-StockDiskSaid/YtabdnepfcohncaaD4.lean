import Derived.Test.YtabdnepfcohncaaD3
import Derived.StillTailTactics
namespace Go.Proofs.Ytabdnepfcohncaa
open Go.RowKit
set_option linter.unusedVariables false
theorem OB.cap {w : World} {base n c : Nat} {A : Option Addr} {l : List UInt8} (h : OB w base (.slice A n c) l) : n ≤ c := by
  rcases h.2 with ⟨h1, _⟩ | ⟨g, cap, cur, h1, _, _, h4, _⟩
  · injection h1; omega
  · injection h1; omega
theorem OB.cut {w : World} {base n c : Nat} {A : Option Addr} {l : List UInt8} (h : OB w base (.slice A n c) l) (x : Nat) (hx : x ≤ l.length) : OB w base (.slice A x c) (l.take x) := by
  have hl : (l.take x).length = x := by rw [List.length_take]; omega
  refine ⟨by simp, ?_⟩
  rw [hl]
  rcases h.2 with ⟨h1, h2⟩ | ⟨g, cap, cur, h1, hb, hh, h4, h5, h6, h7⟩
  · injection h1 with h1 h3 h4
    subst h1; subst h4
    have : x = 0 := by omega
    subst this
    exact .inl ⟨rfl, rfl⟩
  · injection h1 with h1 h3 h8
    subst h1; subst h8
    refine .inr ⟨g, c, cur, rfl, hb, hh, by omega, h5, h6, ?_⟩
    rw [List.map_take, ← h7, List.take_take]
    congr 1
    omega
def cutN (l s : Nat) (keep : Int) : Nat := s + min keep.toNat (l - s)
theorem crash_val (a : Int) (l s : Nat) (h : s ≤ l) (hl : l ≤ 1048576) :
    IntKind.i64.wrap ((s : Int) + if 0 < if IntKind.i64.wrap ((l : Int) - (s : Int)) < a then IntKind.i64.wrap ((l : Int) - (s : Int)) else a then if IntKind.i64.wrap ((l : Int) - (s : Int)) < a then IntKind.i64.wrap ((l : Int) - (s : Int)) else a else 0) = ((cutN l s a : Nat) : Int) := by
  have hw : IntKind.i64.wrap ((l : Int) - (s : Int)) = (l : Int) - (s : Int) := by rw [IntKind.wrap_i64]; omega
  rw [hw, IntKind.wrap_i64]
  unfold cutN
  split <;> split <;> omega
set_option maxHeartbeats 1600000 in
set_option maxRecDepth 100000 in
theorem Crash_any {w : World} {g : Nat} {m : DM} {fp : Nat → Prop} (h : DiskP w g m fp) (a b : Int) :
    Calls Try.prog 52 #[.pointer (some ⟨g, 0, none⟩), .int .i64 a, .int .i64 b] w fun e w' => e = .returned (.tuple #[]) ∧ DiskP w' g (m.crash a b) fp ∧ Stp w w' fp fp := by
  obtain ⟨left, A0, c0, A1, c1, hd, hf, hf0, hf1⟩ := h
  obtain ⟨k0, k1, k2, k3, k4, k5, k6, k7⟩ := hd.cells
  have b0 := hd.ok.m0
  have f0 := hd.fz 0
  have b1 := hd.ok.m1
  have b2 := hd.ok.a0
  have b3 := hd.ok.a1
  have b4 := hd.ok.b0
  have b5 := hd.ok.b1
  have f3 := hd.fz 3
  have f4 := hd.fz 4
  have f5 := hd.fz 5
  have f6 := hd.fz 6
  have hm0 : ((m.most : Int) == 0) = false := by simp; omega
  have i0 : ∀ w, (Instr.index 145 (.agg #[.int .i64 a, .int .i64 b]) (.int .i64 0)).run Try.prog w = .ok (.int .i64 a) w := fun _ => by kernel_rfl
  have i1 : ∀ w, (Instr.index 145 (.agg #[.int .i64 a, .int .i64 b]) (.int .i64 1)).run Try.prog w = .ok (.int .i64 b) w := fun _ => by kernel_rfl
  go_enter Try.func52, Try.ntmps52
  go_wp2
  refine wp_loop_rounds 3 ?_
  rw [rounds_succ]
  go_wp2
  go_still_tail 20, (by kernel_rfl)
  have hc0 : cutN m.l0.length m.s0 a ≤ m.l0.length := by unfold cutN; omega
  have hc1 : cutN m.l1.length m.s1 b ≤ m.l1.length := by unfold cutN; omega
  have hcc0 : m.l0.length ≤ c0 := hd.o0.cap
  have hcc1 : m.l1.length ≤ c1 := hd.o1.cap
  rw [crash_val a m.l0.length m.s0 b4 (by omega)]
  generalize IntKind.i64.wrap ((m.l0.length : Int) - (m.s0 : Int)) = q1
  generalize (if q1 < a then q1 else a) = q2
  generalize (if 0 < q2 then q2 else 0) = q3
  change wpList _ _ _ _ _ w.drew
  generalize hx0 : cutN m.l0.length m.s0 a = x0 at *
  generalize hx1 : cutN m.l1.length m.s1 b = x1 at *
  have HX0 := Lib.hid hx0
  have HX1 := Lib.hid hx1
  clear hx0 hx1
  go_wp2_with fail
  have B1 : Blk (w.setCell ⟨g, 4, none⟩ (.int .i64 (x0 : Int))).drew g 120 #[.bool m.off, .bool m.fuse.isSome, .int .i64 left, .slice A0 m.l0.length c0, .int .i64 x0, .slice A1 m.l1.length c1, .int .i64 m.s1, .int .i64 m.most] := hd.blk.set_ 4 _
  have K1 : Keeps w (w.setCell ⟨g, 4, none⟩ (.int .i64 (x0 : Int))).drew (· = g) := (keeps_set w g 4 _).drew
  clear k0 k1 k2 k3 k4 k5 k6 k7 f0 f3 f4 f5 f6
  generalize (w.setCell ⟨g, 4, none⟩ (.int .i64 (x0 : Int))).drew = W1 at B1 K1 ⊢
  have k3 : W1.cell? ⟨g, 3, none⟩ = some (.slice A0 m.l0.length c0) := B1.cell 3
  have k4 : W1.cell? ⟨g, 4, none⟩ = some (.int .i64 x0) := B1.cell 4
  have f3 := B1.frozen 3
  have hx0c : x0 ≤ c0 := by omega
  go_still_tail 12, (by kernel_rfl)
  change wpList _ _ _ _ _ W1.drew
  go_wp2_with fail
  have B2 : Blk (W1.setCell ⟨g, 3, none⟩ (.slice A0 x0 c0)).drew g 120 #[.bool m.off, .bool m.fuse.isSome, .int .i64 left, .slice A0 x0 c0, .int .i64 x0, .slice A1 m.l1.length c1, .int .i64 m.s1, .int .i64 m.most] := B1.set_ 3 _
  have K2 : Keeps w (W1.setCell ⟨g, 3, none⟩ (.slice A0 x0 c0)).drew (· = g) := (K1.setCell (p := ⟨g, 3, none⟩) (.inl rfl) _).drew
  clear k3 k4 f3
  generalize (W1.setCell ⟨g, 3, none⟩ (.slice A0 x0 c0)).drew = W2 at B2 K2 ⊢
  have k5 : W2.cell? ⟨g, 5, none⟩ = some (.slice A1 m.l1.length c1) := B2.cell 5
  have k6 : W2.cell? ⟨g, 6, none⟩ = some (.int .i64 m.s1) := B2.cell 6
  have f6 := B2.frozen 6
  rw [rounds_succ]
  go_wp2
  go_still_tail 20, (by kernel_rfl)
  rw [crash_val b m.l1.length m.s1 b5 (by omega)]
  generalize IntKind.i64.wrap ((m.l1.length : Int) - (m.s1 : Int)) = r1
  generalize (if r1 < b then r1 else b) = r2
  generalize (if 0 < r2 then r2 else 0) = r3
  rw [HX1.out]
  change wpList _ _ _ _ _ W2.drew
  go_wp2_with fail
  have B3 : Blk (W2.setCell ⟨g, 6, none⟩ (.int .i64 (x1 : Int))).drew g 120 #[.bool m.off, .bool m.fuse.isSome, .int .i64 left, .slice A0 x0 c0, .int .i64 x0, .slice A1 m.l1.length c1, .int .i64 x1, .int .i64 m.most] := B2.set_ 6 _
  have K3 : Keeps w (W2.setCell ⟨g, 6, none⟩ (.int .i64 (x1 : Int))).drew (· = g) := (K2.setCell (p := ⟨g, 6, none⟩) (.inl rfl) _).drew
  clear k5 k6 f6
  generalize (W2.setCell ⟨g, 6, none⟩ (.int .i64 (x1 : Int))).drew = W3 at B3 K3 ⊢
  have k5 : W3.cell? ⟨g, 5, none⟩ = some (.slice A1 m.l1.length c1) := B3.cell 5
  have k6 : W3.cell? ⟨g, 6, none⟩ = some (.int .i64 x1) := B3.cell 6
  have f5 := B3.frozen 5
  have hx1c : x1 ≤ c1 := by omega
  go_still_tail 12, (by kernel_rfl)
  change wpList _ _ _ _ _ W3.drew
  go_wp2_with fail
  have B4 : Blk (W3.setCell ⟨g, 5, none⟩ (.slice A1 x1 c1)).drew g 120 #[.bool m.off, .bool m.fuse.isSome, .int .i64 left, .slice A0 x0 c0, .int .i64 x0, .slice A1 x1 c1, .int .i64 x1, .int .i64 m.most] := B3.set_ 5 _
  have K4 : Keeps w (W3.setCell ⟨g, 5, none⟩ (.slice A1 x1 c1)).drew (· = g) := (K3.setCell (p := ⟨g, 5, none⟩) (.inl rfl) _).drew
  clear k5 k6 f5
  generalize (W3.setCell ⟨g, 5, none⟩ (.slice A1 x1 c1)).drew = W4 at B4 K4 ⊢
  have k0 : W4.cell? ⟨g, 0, none⟩ = some (.bool m.off) := B4.cell 0
  have k1 : W4.cell? ⟨g, 1, none⟩ = some (.bool m.fuse.isSome) := B4.cell 1
  have k2 : W4.cell? ⟨g, 2, none⟩ = some (.int .i64 left) := B4.cell 2
  have f0 := B4.frozen 0
  have f1 := B4.frozen 1
  have f2 := B4.frozen 2
  rw [rounds_succ]
  go_wp2
  go_end0
  have hg0 : ∀ i, blkOf A0 = some i → ¬ i = g := fun i hi e => hd.o0.ne_blk' hd.blk (by decide) (by rw [hi, e])
  have hg1 : ∀ i, blkOf A1 = some i → ¬ i = g := fun i hi e => hd.o1.ne_blk' hd.blk (by decide) (by rw [hi, e])
  have K5 : Keeps w (((W4.setCell ⟨g, 0, none⟩ (.bool false)).setCell ⟨g, 1, none⟩ (.bool false)).setCell ⟨g, 2, none⟩ (.int .i64 0)) (· = g) :=
    ((K4.setCell (p := ⟨g, 0, none⟩) (.inl rfl) _).setCell (p := ⟨g, 1, none⟩) (.inl rfl) _).setCell (p := ⟨g, 2, none⟩) (.inl rfl) _
  have e0 : (m.crash a b).l0.length = x0 := by
    show (m.l0.take (cutN m.l0.length m.s0 a)).length = x0
    rw [HX0.out, List.length_take]; omega
  have e1 : (m.crash a b).l1.length = x1 := by
    show (m.l1.take (cutN m.l1.length m.s1 b)).length = x1
    rw [HX1.out, List.length_take]; omega
  refine ⟨rfl, ⟨0, A0, c0, A1, c1, ⟨?_, (fun k hk => nomatch hk), ?_, ?_, hd.dis, hd.ok.crash a b⟩, hf, hf0, hf1⟩, K5.mono (fun k hk => by rw [hk]; exact hf), fun _ h => .inl h⟩
  · have hb := ((B4.set_ 0 (.bool false)).set_ 1 (.bool false)).set_ 2 (.int .i64 0)
    rw [e0, e1]
    show Blk _ g 120 #[_, _, _, _, .int .i64 (cutN m.l0.length m.s0 a), _, .int .i64 (cutN m.l1.length m.s1 b), _]
    rw [HX0.out, HX1.out]
    exact hb
  · rw [e0]
    show OB _ 0 _ (m.l0.take (cutN m.l0.length m.s0 a))
    rw [HX0.out]
    exact (hd.o0.cut x0 hc0).keeps' K5 hg0
  · rw [e1]
    show OB _ 0 _ (m.l1.take (cutN m.l1.length m.s1 b))
    rw [HX1.out]
    exact (hd.o1.cut x1 hc1).keeps' K5 hg1
end Go.Proofs.Ytabdnepfcohncaa
