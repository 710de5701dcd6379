import Derived.Test.YtabdnepfcohncaaD1
namespace Go.Proofs.Ytabdnepfcohncaa
open Go.RowKit
set_option linter.unusedVariables false
theorem DP.setS0 {w : World} {g : Nat} {m : DM} {left : Int} {A0 A1 : Option Addr} {c0 c1 : Nat} {fp : Nat → Prop} (h : DP w g m left A0 c0 A1 c1) (hf : fp g) (hf0 : ∀ k, blkOf A0 = some k → fp k) (hf1 : ∀ k, blkOf A1 = some k → fp k) :
    DiskP (w.setCell ⟨g, 4, none⟩ (.int .i64 m.l0.length)) g { m with s0 := m.l0.length } fp ∧ Stp w (w.setCell ⟨g, 4, none⟩ (.int .i64 m.l0.length)) fp fp :=
  ⟨⟨left, A0, c0, A1, c1, ⟨h.blk.set_ 4 _, h.left_, h.o0.keeps' (keeps_set w g 4 _) (fun i hi e => h.o0.ne_blk' h.blk (by decide) (by rw [hi, e])), h.o1.keeps' (keeps_set w g 4 _) (fun i hi e => h.o1.ne_blk' h.blk (by decide) (by rw [hi, e])), h.dis,
    ⟨h.ok.m0, h.ok.m1, h.ok.a0, h.ok.a1, Nat.le_refl _, h.ok.b1, h.ok.f⟩⟩, hf, hf0, hf1⟩, (keeps_set w g 4 _).mono (fun k hk => by rw [hk]; exact hf), fun _ h => .inl h⟩
theorem DP.setS1 {w : World} {g : Nat} {m : DM} {left : Int} {A0 A1 : Option Addr} {c0 c1 : Nat} {fp : Nat → Prop} (h : DP w g m left A0 c0 A1 c1) (hf : fp g) (hf0 : ∀ k, blkOf A0 = some k → fp k) (hf1 : ∀ k, blkOf A1 = some k → fp k) :
    DiskP (w.setCell ⟨g, 6, none⟩ (.int .i64 m.l1.length)) g { m with s1 := m.l1.length } fp ∧ Stp w (w.setCell ⟨g, 6, none⟩ (.int .i64 m.l1.length)) fp fp :=
  ⟨⟨left, A0, c0, A1, c1, ⟨h.blk.set_ 6 _, h.left_, h.o0.keeps' (keeps_set w g 6 _) (fun i hi e => h.o0.ne_blk' h.blk (by decide) (by rw [hi, e])), h.o1.keeps' (keeps_set w g 6 _) (fun i hi e => h.o1.ne_blk' h.blk (by decide) (by rw [hi, e])), h.dis,
    ⟨h.ok.m0, h.ok.m1, h.ok.a0, h.ok.a1, h.ok.b0, Nat.le_refl _, h.ok.f⟩⟩, hf, hf0, hf1⟩, (keeps_set w g 6 _).mono (fun k hk => by rw [hk]; exact hf), fun _ h => .inl h⟩
theorem Sync_any {w : World} {g : Nat} {m : DM} {fp : Nat → Prop} (h : DiskP w g m fp) (n : Int) :
    Calls Try.prog 66 #[.pointer (some ⟨g, 0, none⟩), .int .i64 n] w fun e w' => e = .returned (.int .i64 (m.sync n).1) ∧ DiskP w' g (m.sync n).2 fp ∧ Stp w w' fp fp := by
  have h0 := h
  obtain ⟨left, A0, c0, A1, c1, hd, hf, hf0, hf1⟩ := h
  obtain ⟨k0, k1, k2, k3, k4, k5, k6, k7⟩ := hd.cells
  have hok := hd.ok
  have b0 := hok.m0
  have b1 := hok.m1
  have b2 := hok.a0
  have b3 := hok.a1
  obtain ⟨e1, e2, e3, e4, e5⟩ := m.spend_same
  by_cases hn0 : n = 0
  · subst hn0
    cases hb : m.spend.1 with
    | false =>
      rw [show m.sync 0 = (14, m.spend.2) by simp [DM.sync, hb]]
      clear e1 e2 e3 e4 e5
      go_enter Try.func66, Try.ntmps66
      go_wp2_with fail
      refine (at_0 k7 (by omega)).mono ?_
      rintro e w1 ⟨rfl, rfl⟩
      go_wp2_with fail
      refine (spend_any hd).mono ?_
      rintro e w1 ⟨rfl, left1, hd1, hk1⟩
      go_wp2
      go_ret
      exact ⟨rfl, ⟨left1, A0, c0, A1, c1, hd1, hf, hf0, hf1⟩, hk1.mono (fun k hk => by rw [hk]; exact hf), fun _ h => .inl h⟩
    | true =>
      rw [show m.sync 0 = (0, { m.spend.2 with s0 := m.l0.length }) by simp [DM.sync, hb]]
      have HE := Lib.hid e2
      clear e1 e2 e3 e4 e5
      go_enter Try.func66, Try.ntmps66
      go_wp2_with fail
      refine (at_0 k7 (by omega)).mono ?_
      rintro e w1 ⟨rfl, rfl⟩
      go_wp2_with fail
      refine (spend_any hd).mono ?_
      rintro e w1 ⟨rfl, left1, hd1, hk1⟩
      clear k0 k1 k2 k3 k4 k5 k6 k7
      have HP := Lib.hid (hd1.setS0 hf hf0 hf1)
      obtain ⟨k0, k1, k2, k3, k4, k5, k6, k7⟩ := hd1.cells
      have fz := hd1.fz 4
      go_wp2
      go_ret
      obtain ⟨hp, hst⟩ := HP.out
      rw [HE.out] at hp hst
      rw [HE.out]
      exact ⟨rfl, hp, (Stp.mk (hk1.mono (fun k hk => by rw [hk]; exact hf)) (fun _ h => .inl h)).trans hst⟩
  · by_cases hn1 : n = 1
    · subst hn1
      clear hn0
      cases hb : m.spend.1 with
      | false =>
        rw [show m.sync 1 = (14, m.spend.2) by simp [DM.sync, hb]]
        clear e1 e2 e3 e4 e5
        go_enter Try.func66, Try.ntmps66
        go_wp2_with fail
        refine (at_1 k7 (by omega)).mono ?_
        rintro e w1 ⟨rfl, rfl⟩
        go_wp2_with fail
        refine (spend_any hd).mono ?_
        rintro e w1 ⟨rfl, left1, hd1, hk1⟩
        go_wp2
        go_ret
        exact ⟨rfl, ⟨left1, A0, c0, A1, c1, hd1, hf, hf0, hf1⟩, hk1.mono (fun k hk => by rw [hk]; exact hf), fun _ h => .inl h⟩
      | true =>
        rw [show m.sync 1 = (0, { m.spend.2 with s1 := m.l1.length }) by simp [DM.sync, hb]]
        have HE := Lib.hid e4
        clear e1 e2 e3 e4 e5
        go_enter Try.func66, Try.ntmps66
        go_wp2_with fail
        refine (at_1 k7 (by omega)).mono ?_
        rintro e w1 ⟨rfl, rfl⟩
        go_wp2_with fail
        refine (spend_any hd).mono ?_
        rintro e w1 ⟨rfl, left1, hd1, hk1⟩
        clear k0 k1 k2 k3 k4 k5 k6 k7
        have HP := Lib.hid (hd1.setS1 hf hf0 hf1)
        obtain ⟨k0, k1, k2, k3, k4, k5, k6, k7⟩ := hd1.cells
        have fz := hd1.fz 6
        go_wp2
        go_ret
        obtain ⟨hp, hst⟩ := HP.out
        rw [HE.out] at hp hst
        rw [HE.out]
        exact ⟨rfl, hp, (Stp.mk (hk1.mono (fun k hk => by rw [hk]; exact hf)) (fun _ h => .inl h)).trans hst⟩
    · rw [show m.sync n = (2, m) by simp [DM.sync, hn0, hn1]]
      clear e1 e2 e3 e4 e5
      go_enter Try.func66, Try.ntmps66
      go_wp2_with fail
      refine (at_x n k7 (by omega) hn0 hn1).mono ?_
      rintro e w1 ⟨rfl, rfl⟩
      go_wp2
      go_ret
      exact ⟨rfl, h0, Stp.refl _ _⟩
theorem keeps_set2 (w : World) (g i j : Nat) (u v : Value) : Keeps w ((w.setCell ⟨g, i, none⟩ u).setCell ⟨g, j, none⟩ v) (· = g) :=
  (keeps_set w g i u).setCell (p := ⟨g, j, none⟩) (.inl rfl) v
theorem DP.wipe0 {w : World} {g : Nat} {m : DM} {left : Int} {A0 A1 : Option Addr} {c0 c1 : Nat} {fp : Nat → Prop} (h : DP w g m left A0 c0 A1 c1) (hf : fp g) (hf1 : ∀ k, blkOf A1 = some k → fp k) :
    DiskP ((w.setCell ⟨g, 3, none⟩ (.slice none 0 0)).setCell ⟨g, 4, none⟩ (.int .i64 0)) g { m with l0 := [], s0 := 0 } fp ∧ Stp w ((w.setCell ⟨g, 3, none⟩ (.slice none 0 0)).setCell ⟨g, 4, none⟩ (.int .i64 0)) fp fp :=
  ⟨⟨left, none, 0, A1, c1, ⟨(h.blk.set_ 3 _).set_ 4 _, h.left_, OB.nil _ _, h.o1.keeps' (keeps_set2 w g 3 4 _ _) (fun i hi e => h.o1.ne_blk' h.blk (by decide) (by rw [hi, e])), (fun i hi => nomatch hi),
    ⟨h.ok.m0, h.ok.m1, Nat.zero_le _, h.ok.a1, Nat.le_refl _, h.ok.b1, h.ok.f⟩⟩, hf, (fun k hk => nomatch hk), hf1⟩, (keeps_set2 w g 3 4 _ _).mono (fun k hk => by rw [hk]; exact hf), fun _ h => .inl h⟩
theorem DP.wipe1 {w : World} {g : Nat} {m : DM} {left : Int} {A0 A1 : Option Addr} {c0 c1 : Nat} {fp : Nat → Prop} (h : DP w g m left A0 c0 A1 c1) (hf : fp g) (hf0 : ∀ k, blkOf A0 = some k → fp k) :
    DiskP ((w.setCell ⟨g, 5, none⟩ (.slice none 0 0)).setCell ⟨g, 6, none⟩ (.int .i64 0)) g { m with l1 := [], s1 := 0 } fp ∧ Stp w ((w.setCell ⟨g, 5, none⟩ (.slice none 0 0)).setCell ⟨g, 6, none⟩ (.int .i64 0)) fp fp :=
  ⟨⟨left, A0, c0, none, 0, ⟨(h.blk.set_ 5 _).set_ 6 _, h.left_, h.o0.keeps' (keeps_set2 w g 5 6 _ _) (fun i hi e => h.o0.ne_blk' h.blk (by decide) (by rw [hi, e])), OB.nil _ _, (fun i hi hi1 => nomatch hi1),
    ⟨h.ok.m0, h.ok.m1, h.ok.a0, Nat.zero_le _, h.ok.b0, Nat.le_refl _, h.ok.f⟩⟩, hf, hf0, (fun k hk => nomatch hk)⟩, (keeps_set2 w g 5 6 _ _).mono (fun k hk => by rw [hk]; exact hf), fun _ h => .inl h⟩
theorem Clear_any {w : World} {g : Nat} {m : DM} {fp : Nat → Prop} (h : DiskP w g m fp) (n : Int) :
    Calls Try.prog 67 #[.pointer (some ⟨g, 0, none⟩), .int .i64 n] w fun e w' => e = .returned (.int .i64 (m.clear n).1) ∧ DiskP w' g (m.clear n).2 fp ∧ Stp w w' fp fp := by
  have h0 := h
  obtain ⟨left, A0, c0, A1, c1, hd, hf, hf0, hf1⟩ := h
  obtain ⟨k0, k1, k2, k3, k4, k5, k6, k7⟩ := hd.cells
  have hok := hd.ok
  have b0 := hok.m0
  have b1 := hok.m1
  by_cases hn0 : n = 0
  · subst hn0
    cases hb : m.spend.1 with
    | false =>
      rw [show m.clear 0 = (14, m.spend.2) by simp [DM.clear, hb]]
      go_enter Try.func67, Try.ntmps67
      go_wp2_with fail
      refine (at_0 k7 (by omega)).mono ?_
      rintro e w1 ⟨rfl, rfl⟩
      go_wp2_with fail
      refine (spend_any hd).mono ?_
      rintro e w1 ⟨rfl, left1, hd1, hk1⟩
      go_wp2
      go_ret
      exact ⟨rfl, ⟨left1, A0, c0, A1, c1, hd1, hf, hf0, hf1⟩, hk1.mono (fun k hk => by rw [hk]; exact hf), fun _ h => .inl h⟩
    | true =>
      rw [show m.clear 0 = (0, { m.spend.2 with l0 := [], s0 := 0 }) by simp [DM.clear, hb]]
      go_enter Try.func67, Try.ntmps67
      go_wp2_with fail
      refine (at_0 k7 (by omega)).mono ?_
      rintro e w1 ⟨rfl, rfl⟩
      go_wp2_with fail
      refine (spend_any hd).mono ?_
      rintro e w1 ⟨rfl, left1, hd1, hk1⟩
      clear k0 k1 k2 k3 k4 k5 k6 k7
      have HP := Lib.hid (hd1.wipe0 hf hf1)
      obtain ⟨k0, k1, k2, k3, k4, k5, k6, k7⟩ := hd1.cells
      have fz := hd1.fz 3
      have fz4 := hd1.fz 4
      go_wp2
      go_ret
      obtain ⟨hp, hst⟩ := HP.out
      exact ⟨rfl, hp, (Stp.mk (hk1.mono (fun k hk => by rw [hk]; exact hf)) (fun _ h => .inl h)).trans hst⟩
  · by_cases hn1 : n = 1
    · subst hn1
      clear hn0
      cases hb : m.spend.1 with
      | false =>
        rw [show m.clear 1 = (14, m.spend.2) by simp [DM.clear, hb]]
        go_enter Try.func67, Try.ntmps67
        go_wp2_with fail
        refine (at_1 k7 (by omega)).mono ?_
        rintro e w1 ⟨rfl, rfl⟩
        go_wp2_with fail
        refine (spend_any hd).mono ?_
        rintro e w1 ⟨rfl, left1, hd1, hk1⟩
        go_wp2
        go_ret
        exact ⟨rfl, ⟨left1, A0, c0, A1, c1, hd1, hf, hf0, hf1⟩, hk1.mono (fun k hk => by rw [hk]; exact hf), fun _ h => .inl h⟩
      | true =>
        rw [show m.clear 1 = (0, { m.spend.2 with l1 := [], s1 := 0 }) by simp [DM.clear, hb]]
        go_enter Try.func67, Try.ntmps67
        go_wp2_with fail
        refine (at_1 k7 (by omega)).mono ?_
        rintro e w1 ⟨rfl, rfl⟩
        go_wp2_with fail
        refine (spend_any hd).mono ?_
        rintro e w1 ⟨rfl, left1, hd1, hk1⟩
        clear k0 k1 k2 k3 k4 k5 k6 k7
        have HP := Lib.hid (hd1.wipe1 hf hf0)
        obtain ⟨k0, k1, k2, k3, k4, k5, k6, k7⟩ := hd1.cells
        have fz := hd1.fz 5
        have fz4 := hd1.fz 6
        go_wp2
        go_ret
        obtain ⟨hp, hst⟩ := HP.out
        exact ⟨rfl, hp, (Stp.mk (hk1.mono (fun k hk => by rw [hk]; exact hf)) (fun _ h => .inl h)).trans hst⟩
    · rw [show m.clear n = (2, m) by simp [DM.clear, hn0, hn1]]
      go_enter Try.func67, Try.ntmps67
      go_wp2_with fail
      refine (at_x n k7 (by omega) hn0 hn1).mono ?_
      rintro e w1 ⟨rfl, rfl⟩
      go_wp2
      go_ret
      exact ⟨rfl, h0, Stp.refl _ _⟩
end Go.Proofs.Ytabdnepfcohncaa
