import Derived.Test.YtabdnepfcohncaaE3
namespace Go.Proofs.Ytabdnepfcohncaa
open Go.RowKit
set_option linter.unusedVariables false
set_option linter.unusedSimpArgs false
theorem crash_val2 (a : Int) (l s : Nat) (h : s ≤ l) :
    ((s : Int) + if (l : Int) - (s : Int) < if a < 0 then 0 else a then (l : Int) - (s : Int) else if a < 0 then 0 else a) = ((cutN l s a : Nat) : Int) := by
  unfold cutN
  split <;> split <;> omega
set_option maxHeartbeats 1600000 in
set_option maxRecDepth 100000 in
theorem rCrash_any {w : World} {g : Nat} {m : DM} {fp : Nat → Prop} (h : DiskR w g m fp) (a b : Int) :
    Calls Try.prog 82 #[.pointer (some ⟨g, 0, none⟩), .int .i64 a, .int .i64 b] w fun e w' => e = .returned (.tuple #[]) ∧ DiskR w' g (m.crash a b) fp ∧ Stp w w' fp fp := by
  obtain ⟨A0, c0, A1, c1, hd, hf, hf0, hf1⟩ := h
  obtain ⟨k0, k1, k2, k3, k4, k5, k6⟩ := hd.cells
  have b0 := hd.ok.m0
  have b1 := hd.ok.m1
  have b2 := hd.ok.a0
  have b3 := hd.ok.a1
  have b4 := hd.ok.b0
  have b5 := hd.ok.b1
  have i0 : ∀ w, (Instr.index 145 (.agg #[.int .i64 a, .int .i64 b]) (.int .i64 0)).run Try.prog w = .ok (.int .i64 a) w := fun _ => by kernel_rfl
  have i1 : ∀ w, (Instr.index 145 (.agg #[.int .i64 a, .int .i64 b]) (.int .i64 1)).run Try.prog w = .ok (.int .i64 b) w := fun _ => by kernel_rfl
  have hc0 : cutN m.l0.length m.s0 a ≤ m.l0.length := by unfold cutN; omega
  have hc1 : cutN m.l1.length m.s1 b ≤ m.l1.length := by unfold cutN; omega
  have hcc0 := hd.k0
  have hcc1 := hd.k1
  have hz0 : c0 ≤ 9223372036854775807 := hd.z0
  have hz1 : c1 ≤ 9223372036854775807 := hd.z1
  go_enter Try.func82, Try.ntmps82
  go_wp2
  refine wp_loop_rounds 3 ?_
  rw [rounds_succ]
  go_wp2
  go_quiet (fail)
  rw [crash_val2 a m.l0.length m.s0 b4]
  generalize (if a < 0 then 0 else a) = q1
  generalize (if (m.l0.length : Int) - (m.s0 : Int) < q1 then (m.l0.length : Int) - (m.s0 : Int) else q1) = q2
  generalize hx0 : cutN m.l0.length m.s0 a = x0 at *
  generalize hx1 : cutN m.l1.length m.s1 b = x1 at *
  have HX0 := Lib.hid hx0
  have HX1 := Lib.hid hx1
  clear hx0 hx1
  have hx0c : x0 ≤ c0 := by omega
  have hx1c : x1 ≤ c1 := by omega
  have B0 : Blk (w.drewN nq) g 147 _ := hd.blk
  have K0 : Keeps w (w.drewN nq) (· = g) := keeps_draw w nq _
  clear k0 k1 k2 k3 k4 k5 k6
  generalize w.drewN nq = W0 at B0 K0 ⊢
  have k1 : W0.cell? ⟨g, 1, none⟩ = some (.slice A0 m.l0.length c0) := B0.cell 1
  have f1 := B0.frozen 1
  go_wp2_with (fail)
  go_still_tail 14, (by kernel_rfl)
  change wpList _ _ _ _ _ W0.drew
  go_upto_region 5 with (fail)
  have B1 : Blk (W0.setCell ⟨g, 1, none⟩ (.slice A0 x0 x0)).drew g 147 #[.int .i64 m.most, .slice A0 x0 x0, .slice A1 m.l1.length c1, .int .i64 m.s0, .int .i64 m.s1, .bool m.off, .int .i64 (leftOf m.fuse)] := B0.set_ 1 _
  have K1 : Keeps w (W0.setCell ⟨g, 1, none⟩ (.slice A0 x0 x0)).drew (· = g) := (K0.setCell (p := ⟨g, 1, none⟩) (.inl rfl) _).drew
  clear k1 f1
  generalize (W0.setCell ⟨g, 1, none⟩ (.slice A0 x0 x0)).drew = W1 at B1 K1 ⊢
  have k3 : W1.cell? ⟨g, 3, none⟩ = some (.int .i64 m.s0) := B1.cell 3
  have f3 := B1.frozen 3
  go_wp2
  have B2 : Blk (W1.setCell ⟨g, 3, none⟩ (.int .i64 (x0 : Int))) g 147 #[.int .i64 m.most, .slice A0 x0 x0, .slice A1 m.l1.length c1, .int .i64 x0, .int .i64 m.s1, .bool m.off, .int .i64 (leftOf m.fuse)] := B1.set_ 3 _
  have K2 : Keeps w (W1.setCell ⟨g, 3, none⟩ (.int .i64 (x0 : Int))) (· = g) := (K1.setCell (p := ⟨g, 3, none⟩) (.inl rfl) _)
  clear k3 f3
  generalize (W1.setCell ⟨g, 3, none⟩ (.int .i64 (x0 : Int))) = W2 at B2 K2 ⊢
  have k2 : W2.cell? ⟨g, 2, none⟩ = some (.slice A1 m.l1.length c1) := B2.cell 2
  have k4 : W2.cell? ⟨g, 4, none⟩ = some (.int .i64 m.s1) := B2.cell 4
  rw [rounds_succ]
  go_wp2
  go_quiet (fail)
  rw [crash_val2 b m.l1.length m.s1 b5]
  generalize (if b < 0 then 0 else b) = r1
  generalize (if (m.l1.length : Int) - (m.s1 : Int) < r1 then (m.l1.length : Int) - (m.s1 : Int) else r1) = r2
  rw [HX1.out]
  have B3 : Blk (W2.drewN nq) g 147 _ := B2
  have K3 : Keeps w (W2.drewN nq) (· = g) := K2.drewN nq
  clear k2 k4
  generalize W2.drewN nq = W3 at B3 K3 ⊢
  have k2 : W3.cell? ⟨g, 2, none⟩ = some (.slice A1 m.l1.length c1) := B3.cell 2
  have f2 := B3.frozen 2
  go_wp2_with (fail)
  go_still_tail 14, (by kernel_rfl)
  change wpList _ _ _ _ _ W3.drew
  go_upto_region 5 with (fail)
  have B4 : Blk (W3.setCell ⟨g, 2, none⟩ (.slice A1 x1 x1)).drew g 147 #[.int .i64 m.most, .slice A0 x0 x0, .slice A1 x1 x1, .int .i64 x0, .int .i64 m.s1, .bool m.off, .int .i64 (leftOf m.fuse)] := B3.set_ 2 _
  have K4 : Keeps w (W3.setCell ⟨g, 2, none⟩ (.slice A1 x1 x1)).drew (· = g) := (K3.setCell (p := ⟨g, 2, none⟩) (.inl rfl) _).drew
  clear k2 f2
  generalize (W3.setCell ⟨g, 2, none⟩ (.slice A1 x1 x1)).drew = W4 at B4 K4 ⊢
  have k4 : W4.cell? ⟨g, 4, none⟩ = some (.int .i64 m.s1) := B4.cell 4
  have f4 := B4.frozen 4
  go_wp2
  have B5 : Blk (W4.setCell ⟨g, 4, none⟩ (.int .i64 (x1 : Int))) g 147 #[.int .i64 m.most, .slice A0 x0 x0, .slice A1 x1 x1, .int .i64 x0, .int .i64 x1, .bool m.off, .int .i64 (leftOf m.fuse)] := B4.set_ 4 _
  have K5 : Keeps w (W4.setCell ⟨g, 4, none⟩ (.int .i64 (x1 : Int))) (· = g) := (K4.setCell (p := ⟨g, 4, none⟩) (.inl rfl) _)
  clear k4 f4
  generalize (W4.setCell ⟨g, 4, none⟩ (.int .i64 (x1 : Int))) = W5 at B5 K5 ⊢
  have k5 : W5.cell? ⟨g, 5, none⟩ = some (.bool m.off) := B5.cell 5
  have k6 : W5.cell? ⟨g, 6, none⟩ = some (.int .i64 (leftOf m.fuse)) := B5.cell 6
  have f5 := B5.frozen 5
  have f6 := B5.frozen 6
  rw [rounds_succ]
  go_wp2
  go_end0
  have K6 : Keeps w ((W5.setCell ⟨g, 5, none⟩ (.bool false)).setCell ⟨g, 6, none⟩ (.int .i64 (-1))) (· = g) :=
    (K5.setCell (p := ⟨g, 5, none⟩) (.inl rfl) _).setCell (p := ⟨g, 6, none⟩) (.inl rfl) _
  obtain ⟨q0, q1⟩ := hd.rset K6
  have e0 : (m.crash a b).l0 = m.l0.take x0 := by
    show m.l0.take (cutN m.l0.length m.s0 a) = _
    rw [HX0.out]
  have e1 : (m.crash a b).l1 = m.l1.take x1 := by
    show m.l1.take (cutN m.l1.length m.s1 b) = _
    rw [HX1.out]
  have g0 : (m.l0.take x0).length = x0 := by rw [List.length_take]; omega
  have g1 : (m.l1.take x1).length = x1 := by rw [List.length_take]; omega
  have z0 : (m.crash a b).s0 = x0 := HX0.out
  have z1 : (m.crash a b).s1 = x1 := HX1.out
  refine ⟨rfl, ⟨A0, x0, A1, x1, ⟨?_, ?_, ?_, hd.n0, hd.n1, ?_, ?_, Nat.le_trans hx0c hd.z0, Nat.le_trans hx1c hd.z1, hd.ok.crash a b⟩, hf, hf0, hf1⟩, K6.mono (fun k hk => by rw [hk]; exact hf), fun _ h => .inl h⟩
  · rw [e0, e1, g0, g1, z0, z1]
    exact (B5.set_ 5 (.bool false)).set_ 6 (.int .i64 (-1))
  · rw [e0, g0]; exact q0.cut0 x0 (by omega)
  · rw [e1, g1]; exact q1.cut0 x1 (by omega)
  · rw [e0, g0]; exact Nat.le_refl _
  · rw [e1, g1]; exact Nat.le_refl _
end Go.Proofs.Ytabdnepfcohncaa
