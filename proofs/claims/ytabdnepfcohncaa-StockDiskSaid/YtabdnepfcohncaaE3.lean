import Derived.Test.YtabdnepfcohncaaE2
import Derived.Test.YtabdnepfcohncaaD4
import Derived.StillTailTactics
namespace Go.Proofs.Ytabdnepfcohncaa
open Go.RowKit
set_option linter.unusedVariables false
set_option linter.unusedSimpArgs false

theorem DR.setS0 {w : World} {g : Nat} {m : DM} {A0 A1 : Option Addr} {c0 c1 : Nat} {fp : Nat → Prop} (h : DR w g m A0 c0 A1 c1) (hf : fp g) (hf0 : ∀ ad, A0 = some ad → fp ad.block) (hf1 : ∀ ad, A1 = some ad → fp ad.block) :
    DiskR (w.setCell ⟨g, 3, none⟩ (.int .i64 m.l0.length)) g { m with s0 := m.l0.length } fp ∧ Stp w (w.setCell ⟨g, 3, none⟩ (.int .i64 m.l0.length)) fp fp := by
  obtain ⟨q0, q1⟩ := h.rset (keeps_set w g 3 (.int .i64 m.l0.length))
  exact ⟨⟨A0, c0, A1, c1, ⟨h.blk.set_ 3 _, q0, q1, h.n0, h.n1, h.k0, h.k1, h.z0, h.z1, ⟨h.ok.m0, h.ok.m1, h.ok.a0, h.ok.a1, Nat.le_refl _, h.ok.b1, h.ok.f⟩⟩, hf, hf0, hf1⟩, (keeps_set w g 3 _).mono (fun k hk => by rw [hk]; exact hf), fun _ h => .inl h⟩
theorem DR.wipe0 {w : World} {g : Nat} {m : DM} {A0 A1 : Option Addr} {c0 c1 : Nat} {fp : Nat → Prop} (h : DR w g m A0 c0 A1 c1) (hf : fp g) (hf1 : ∀ ad, A1 = some ad → fp ad.block) :
    DiskR ((w.setCell ⟨g, 1, none⟩ (.slice none 0 0)).setCell ⟨g, 3, none⟩ (.int .i64 0)) g { m with l0 := [], s0 := 0 } fp ∧ Stp w ((w.setCell ⟨g, 1, none⟩ (.slice none 0 0)).setCell ⟨g, 3, none⟩ (.int .i64 0)) fp fp := by
  obtain ⟨q0, q1⟩ := h.rset (keeps_set2 w g 1 3 (.slice none 0 0) (.int .i64 0))
  exact ⟨⟨none, 0, A1, c1, ⟨(h.blk.set_ 1 _).set_ 3 _, RB.zero _ _ _, q1, (fun _ e => nomatch e), h.n1, Nat.le_refl _, h.k1, Nat.zero_le _, h.z1,
    ⟨h.ok.m0, h.ok.m1, Nat.zero_le _, h.ok.a1, Nat.le_refl _, h.ok.b1, h.ok.f⟩⟩, hf, (fun _ e => nomatch e), hf1⟩, (keeps_set2 w g 1 3 _ _).mono (fun k hk => by rw [hk]; exact hf), fun _ h => .inl h⟩

theorem DR.setS1 {w : World} {g : Nat} {m : DM} {A0 A1 : Option Addr} {c0 c1 : Nat} {fp : Nat → Prop} (h : DR w g m A0 c0 A1 c1) (hf : fp g) (hf0 : ∀ ad, A0 = some ad → fp ad.block) (hf1 : ∀ ad, A1 = some ad → fp ad.block) :
    DiskR (w.setCell ⟨g, 4, none⟩ (.int .i64 m.l1.length)) g { m with s1 := m.l1.length } fp ∧ Stp w (w.setCell ⟨g, 4, none⟩ (.int .i64 m.l1.length)) fp fp := by
  obtain ⟨q0, q1⟩ := h.rset (keeps_set w g 4 (.int .i64 m.l1.length))
  exact ⟨⟨A0, c0, A1, c1, ⟨h.blk.set_ 4 _, q0, q1, h.n0, h.n1, h.k0, h.k1, h.z0, h.z1, ⟨h.ok.m0, h.ok.m1, h.ok.a0, h.ok.a1, h.ok.b0, Nat.le_refl _, h.ok.f⟩⟩, hf, hf0, hf1⟩, (keeps_set w g 4 _).mono (fun k hk => by rw [hk]; exact hf), fun _ h => .inl h⟩
theorem DR.wipe1 {w : World} {g : Nat} {m : DM} {A0 A1 : Option Addr} {c0 c1 : Nat} {fp : Nat → Prop} (h : DR w g m A0 c0 A1 c1) (hf : fp g) (hf0 : ∀ ad, A0 = some ad → fp ad.block) :
    DiskR ((w.setCell ⟨g, 2, none⟩ (.slice none 0 0)).setCell ⟨g, 4, none⟩ (.int .i64 0)) g { m with l1 := [], s1 := 0 } fp ∧ Stp w ((w.setCell ⟨g, 2, none⟩ (.slice none 0 0)).setCell ⟨g, 4, none⟩ (.int .i64 0)) fp fp := by
  obtain ⟨q0, q1⟩ := h.rset (keeps_set2 w g 2 4 (.slice none 0 0) (.int .i64 0))
  exact ⟨⟨A0, c0, none, 0, ⟨(h.blk.set_ 2 _).set_ 4 _, q0, RB.zero _ _ _, h.n0, (fun _ e => nomatch e), h.k0, Nat.le_refl _, h.z0, Nat.zero_le _,
    ⟨h.ok.m0, h.ok.m1, h.ok.a0, Nat.zero_le _, h.ok.b0, Nat.le_refl _, h.ok.f⟩⟩, hf, hf0, (fun _ e => nomatch e)⟩, (keeps_set2 w g 2 4 _ _).mono (fun k hk => by rw [hk]; exact hf), fun _ h => .inl h⟩

set_option maxRecDepth 100000 in
theorem rSync_0 {w : World} {g : Nat} {m : DM} {fp : Nat → Prop} (h : DiskR w g m fp) :
    Calls Try.prog 78 #[.pointer (some ⟨g, 0, none⟩), .int .i64 0] w fun e w' => e = .returned (.int .i64 (m.sync 0).1) ∧ DiskR w' g (m.sync 0).2 fp ∧ Stp w w' fp fp := by
  obtain ⟨A0, c0, A1, c1, hd, hf, hf0, hf1⟩ := h
  obtain ⟨e1, e2, e3, e4, e5⟩ := m.spend_same
  cases hb : m.spend.1 with
  | false =>
    rw [show m.sync 0 = (14, m.spend.2) by simp [DM.sync, hb]]
    clear e1 e2 e3 e4 e5
    go_enter Try.func78, Try.ntmps78
    go_wp2_with fail
    refine (done_any hd).mono ?_
    rintro e w1 ⟨rfl, hd1, hk1⟩
    go_wp2
    go_ret
    exact ⟨rfl, ⟨A0, c0, A1, c1, hd1, hf, hf0, hf1⟩, hk1.mono (fun k hk => by rw [hk]; exact hf), fun _ h => .inl h⟩
  | true =>
    rw [show m.sync 0 = (0, { m.spend.2 with s0 := m.l0.length }) by simp [DM.sync, hb]]
    have HE := Lib.hid e2
    clear e1 e2 e3 e4 e5
    go_enter Try.func78, Try.ntmps78
    go_wp2_with fail
    refine (done_any hd).mono ?_
    rintro e w1 ⟨rfl, hd1, hk1⟩
    have HP := Lib.hid (hd1.setS0 hf hf0 hf1)
    obtain ⟨k0, k1, k2, k3, k4, k5, k6⟩ := hd1.cells
    have fz1 := hd1.fz 1
    have fz2 := hd1.fz 3
    have b1 := hd1.ok.m1
    have b2 := hd1.ok.a0
    go_wp2_with fail
    go_still_tail 12, (by kernel_rfl)
    change wpList _ _ _ _ _ w1.drew
    go_wp2
    go_ret
    obtain ⟨hp, hst⟩ := HP.out
    rw [HE.out] at hp hst
    rw [HE.out]
    exact ⟨rfl, hp.drewN 1, ((Stp.mk (hk1.mono (fun k hk => by rw [hk]; exact hf)) (fun _ h => .inl h)).trans hst).trans (stp_draw _ 1 _)⟩

set_option maxRecDepth 100000 in
theorem rSync_1 {w : World} {g : Nat} {m : DM} {fp : Nat → Prop} (h : DiskR w g m fp) :
    Calls Try.prog 78 #[.pointer (some ⟨g, 0, none⟩), .int .i64 1] w fun e w' => e = .returned (.int .i64 (m.sync 1).1) ∧ DiskR w' g (m.sync 1).2 fp ∧ Stp w w' fp fp := by
  obtain ⟨A0, c0, A1, c1, hd, hf, hf0, hf1⟩ := h
  obtain ⟨e1, e2, e3, e4, e5⟩ := m.spend_same
  cases hb : m.spend.1 with
  | false =>
    rw [show m.sync 1 = (14, m.spend.2) by simp [DM.sync, hb]]
    clear e1 e2 e3 e4 e5
    go_enter Try.func78, Try.ntmps78
    go_wp2_with fail
    refine (done_any hd).mono ?_
    rintro e w1 ⟨rfl, hd1, hk1⟩
    go_wp2
    go_ret
    exact ⟨rfl, ⟨A0, c0, A1, c1, hd1, hf, hf0, hf1⟩, hk1.mono (fun k hk => by rw [hk]; exact hf), fun _ h => .inl h⟩
  | true =>
    rw [show m.sync 1 = (0, { m.spend.2 with s1 := m.l1.length }) by simp [DM.sync, hb]]
    have HE := Lib.hid e4
    clear e1 e2 e3 e4 e5
    go_enter Try.func78, Try.ntmps78
    go_wp2_with fail
    refine (done_any hd).mono ?_
    rintro e w1 ⟨rfl, hd1, hk1⟩
    have HP := Lib.hid (hd1.setS1 hf hf0 hf1)
    obtain ⟨k0, k1, k2, k3, k4, k5, k6⟩ := hd1.cells
    have fz1 := hd1.fz 2
    have fz2 := hd1.fz 4
    have b1 := hd1.ok.m1
    have b2 := hd1.ok.a1
    go_wp2_with fail
    go_still_tail 12, (by kernel_rfl)
    change wpList _ _ _ _ _ w1.drew
    go_wp2
    go_ret
    obtain ⟨hp, hst⟩ := HP.out
    rw [HE.out] at hp hst
    rw [HE.out]
    exact ⟨rfl, hp.drewN 1, ((Stp.mk (hk1.mono (fun k hk => by rw [hk]; exact hf)) (fun _ h => .inl h)).trans hst).trans (stp_draw _ 1 _)⟩

theorem rSync_any {w : World} {g : Nat} {m : DM} {fp : Nat → Prop} (h : DiskR w g m fp) (n : Int) :
    Calls Try.prog 78 #[.pointer (some ⟨g, 0, none⟩), .int .i64 n] w fun e w' => e = .returned (.int .i64 (m.sync n).1) ∧ DiskR w' g (m.sync n).2 fp ∧ Stp w w' fp fp := by
  by_cases hn0 : n = 0
  · subst hn0; exact rSync_0 h
  · by_cases hn1 : n = 1
    · subst hn1; exact rSync_1 h
    · rw [show m.sync n = (2, m) by simp [DM.sync, hn0, hn1]]
      by_cases hneg : n < 0
      · go_enter Try.func78, Try.ntmps78
        go_wp2
        go_ret
        exact ⟨rfl, h, Stp.refl _ _⟩
      · have hp : 1 < n := by omega
        clear hn0 hn1
        go_enter Try.func78, Try.ntmps78
        go_wp2
        go_ret
        exact ⟨rfl, h, Stp.refl _ _⟩

set_option maxRecDepth 100000 in
theorem rClear_0 {w : World} {g : Nat} {m : DM} {fp : Nat → Prop} (h : DiskR w g m fp) :
    Calls Try.prog 79 #[.pointer (some ⟨g, 0, none⟩), .int .i64 0] w fun e w' => e = .returned (.int .i64 (m.clear 0).1) ∧ DiskR w' g (m.clear 0).2 fp ∧ Stp w w' fp fp := by
  obtain ⟨A0, c0, A1, c1, hd, hf, hf0, hf1⟩ := h
  obtain ⟨e1, e2, e3, e4, e5⟩ := m.spend_same
  cases hb : m.spend.1 with
  | false =>
    rw [show m.clear 0 = (14, m.spend.2) by simp [DM.clear, hb]]
    clear e1 e2 e3 e4 e5
    go_enter Try.func79, Try.ntmps79
    go_wp2_with fail
    refine (done_any hd).mono ?_
    rintro e w1 ⟨rfl, hd1, hk1⟩
    go_wp2
    go_ret
    exact ⟨rfl, ⟨A0, c0, A1, c1, hd1, hf, hf0, hf1⟩, hk1.mono (fun k hk => by rw [hk]; exact hf), fun _ h => .inl h⟩
  | true =>
    rw [show m.clear 0 = (0, { m.spend.2 with l0 := [], s0 := 0 }) by simp [DM.clear, hb]]
    have HE := Lib.hid e2
    clear e1 e2 e3 e4 e5
    go_enter Try.func79, Try.ntmps79
    go_wp2_with fail
    refine (done_any hd).mono ?_
    rintro e w1 ⟨rfl, hd1, hk1⟩
    have HP := Lib.hid (hd1.wipe0 hf hf1)
    obtain ⟨k0, k1, k2, k3, k4, k5, k6⟩ := hd1.cells
    have fz1 := hd1.fz 1
    have fz2 := hd1.fz 3
    go_wp2
    go_ret
    obtain ⟨hp, hst⟩ := HP.out
    exact ⟨rfl, hp, (Stp.mk (hk1.mono (fun k hk => by rw [hk]; exact hf)) (fun _ h => .inl h)).trans hst⟩

set_option maxRecDepth 100000 in
theorem rClear_1 {w : World} {g : Nat} {m : DM} {fp : Nat → Prop} (h : DiskR w g m fp) :
    Calls Try.prog 79 #[.pointer (some ⟨g, 0, none⟩), .int .i64 1] w fun e w' => e = .returned (.int .i64 (m.clear 1).1) ∧ DiskR w' g (m.clear 1).2 fp ∧ Stp w w' fp fp := by
  obtain ⟨A0, c0, A1, c1, hd, hf, hf0, hf1⟩ := h
  obtain ⟨e1, e2, e3, e4, e5⟩ := m.spend_same
  cases hb : m.spend.1 with
  | false =>
    rw [show m.clear 1 = (14, m.spend.2) by simp [DM.clear, hb]]
    clear e1 e2 e3 e4 e5
    go_enter Try.func79, Try.ntmps79
    go_wp2_with fail
    refine (done_any hd).mono ?_
    rintro e w1 ⟨rfl, hd1, hk1⟩
    go_wp2
    go_ret
    exact ⟨rfl, ⟨A0, c0, A1, c1, hd1, hf, hf0, hf1⟩, hk1.mono (fun k hk => by rw [hk]; exact hf), fun _ h => .inl h⟩
  | true =>
    rw [show m.clear 1 = (0, { m.spend.2 with l1 := [], s1 := 0 }) by simp [DM.clear, hb]]
    have HE := Lib.hid e4
    clear e1 e2 e3 e4 e5
    go_enter Try.func79, Try.ntmps79
    go_wp2_with fail
    refine (done_any hd).mono ?_
    rintro e w1 ⟨rfl, hd1, hk1⟩
    have HP := Lib.hid (hd1.wipe1 hf hf0)
    obtain ⟨k0, k1, k2, k3, k4, k5, k6⟩ := hd1.cells
    have fz1 := hd1.fz 2
    have fz2 := hd1.fz 4
    go_wp2
    go_ret
    obtain ⟨hp, hst⟩ := HP.out
    exact ⟨rfl, hp, (Stp.mk (hk1.mono (fun k hk => by rw [hk]; exact hf)) (fun _ h => .inl h)).trans hst⟩

theorem rClear_any {w : World} {g : Nat} {m : DM} {fp : Nat → Prop} (h : DiskR w g m fp) (n : Int) :
    Calls Try.prog 79 #[.pointer (some ⟨g, 0, none⟩), .int .i64 n] w fun e w' => e = .returned (.int .i64 (m.clear n).1) ∧ DiskR w' g (m.clear n).2 fp ∧ Stp w w' fp fp := by
  by_cases hn0 : n = 0
  · subst hn0; exact rClear_0 h
  · by_cases hn1 : n = 1
    · subst hn1; exact rClear_1 h
    · rw [show m.clear n = (2, m) by simp [DM.clear, hn0, hn1]]
      by_cases hneg : n < 0
      · go_enter Try.func79, Try.ntmps79
        go_wp2
        go_ret
        exact ⟨rfl, h, Stp.refl _ _⟩
      · have hp : 1 < n := by omega
        clear hn0 hn1
        go_enter Try.func79, Try.ntmps79
        go_wp2
        go_ret
        exact ⟨rfl, h, Stp.refl _ _⟩

theorem rRead_0 {w : World} {g : Nat} {m : DM} {fp : Nat → Prop} (h : DiskR w g m fp) :
    Calls Try.prog 80 #[.pointer (some ⟨g, 0, none⟩), .int .i64 0] w fun e w' => ∃ A c, e = .returned (.tuple #[.slice A (m.read 0).1.length c, .int .i64 (m.read 0).2]) ∧ OB w' w.heap.size (.slice A (m.read 0).1.length c) (m.read 0).1 ∧ Below w.heap.size w w' := by
  obtain ⟨A0, c0, A1, c1, hd, hf, hf0, hf1⟩ := h
  obtain ⟨k0, k1, k2, k3, k4, k5, k6⟩ := hd.cells
  have b1 := hd.ok.m1
  have b2 := hd.ok.a0
  cases hb : m.off with
  | true =>
    rw [show m.read 0 = ([], 14) by simp [DM.read, hb]]
    rw [hb] at k5
    clear hb
    go_enter Try.func80, Try.ntmps80
    go_wp2
    go_ret2
    exact ⟨none, 0, rfl, OB.nil _ _, Below.refl _ _⟩
  | false =>
    rw [show m.read 0 = (m.l0, 0) by simp [DM.read, hb]]
    rw [hb] at k5
    clear hb
    have ka : (w.alloc (.cells #[] 5)).cell? ⟨g, 1, none⟩ = some (.slice A0 m.l0.length c0) := (hd.blk.alloc (.cells #[] 5)).cell 1
    have ho := OB.empty w w.heap.size (Nat.le_refl _)
    go_enter Try.func80, Try.ntmps80
    go_wp2_with (at_builtin; refine Hid.out ?_)
    refine wpList_app8 rfl _ _ rfl rfl ho rfl (hd.r0.alloc (Nat.le_refl _) _) ?_ (by simp) ?_
    · simp; omega
    intro v2 w2 ho2 hu2
    obtain ⟨A2, c2, rfl, _⟩ := ho2.form
    simp only [List.nil_append] at ho2 ⊢
    go_wp2
    go_ret2
    exact ⟨A2, c2, rfl, ho2, ((Below.refl _ _).alloc (Nat.le_refl _) _).trans (hu2.below_own (by simp) ho)⟩

theorem rRead_1 {w : World} {g : Nat} {m : DM} {fp : Nat → Prop} (h : DiskR w g m fp) :
    Calls Try.prog 80 #[.pointer (some ⟨g, 0, none⟩), .int .i64 1] w fun e w' => ∃ A c, e = .returned (.tuple #[.slice A (m.read 1).1.length c, .int .i64 (m.read 1).2]) ∧ OB w' w.heap.size (.slice A (m.read 1).1.length c) (m.read 1).1 ∧ Below w.heap.size w w' := by
  obtain ⟨A0, c0, A1, c1, hd, hf, hf0, hf1⟩ := h
  obtain ⟨k0, k1, k2, k3, k4, k5, k6⟩ := hd.cells
  have b1 := hd.ok.m1
  have b2 := hd.ok.a1
  cases hb : m.off with
  | true =>
    rw [show m.read 1 = ([], 14) by simp [DM.read, hb]]
    rw [hb] at k5
    clear hb
    go_enter Try.func80, Try.ntmps80
    go_wp2
    go_ret2
    exact ⟨none, 0, rfl, OB.nil _ _, Below.refl _ _⟩
  | false =>
    rw [show m.read 1 = (m.l1, 0) by simp [DM.read, hb]]
    rw [hb] at k5
    clear hb
    have ka : (w.alloc (.cells #[] 5)).cell? ⟨g, 2, none⟩ = some (.slice A1 m.l1.length c1) := (hd.blk.alloc (.cells #[] 5)).cell 2
    have ho := OB.empty w w.heap.size (Nat.le_refl _)
    go_enter Try.func80, Try.ntmps80
    go_wp2_with (at_builtin; refine Hid.out ?_)
    refine wpList_app8 rfl _ _ rfl rfl ho rfl (hd.r1.alloc (Nat.le_refl _) _) ?_ (by simp) ?_
    · simp; omega
    intro v2 w2 ho2 hu2
    obtain ⟨A2, c2, rfl, _⟩ := ho2.form
    simp only [List.nil_append] at ho2 ⊢
    go_wp2
    go_ret2
    exact ⟨A2, c2, rfl, ho2, ((Below.refl _ _).alloc (Nat.le_refl _) _).trans (hu2.below_own (by simp) ho)⟩

theorem rRead_any {w : World} {g : Nat} {m : DM} {fp : Nat → Prop} (h : DiskR w g m fp) (n : Int) :
    Calls Try.prog 80 #[.pointer (some ⟨g, 0, none⟩), .int .i64 n] w fun e w' => ∃ A c, e = .returned (.tuple #[.slice A (m.read n).1.length c, .int .i64 (m.read n).2]) ∧ OB w' w.heap.size (.slice A (m.read n).1.length c) (m.read n).1 ∧ Below w.heap.size w w' := by
  by_cases hn0 : n = 0
  · subst hn0; exact rRead_0 h
  · by_cases hn1 : n = 1
    · subst hn1; exact rRead_1 h
    · rw [show m.read n = ([], 2) by simp [DM.read, hn0, hn1]]
      by_cases hneg : n < 0
      · go_enter Try.func80, Try.ntmps80
        go_wp2
        go_ret2
        exact ⟨none, 0, rfl, OB.nil _ _, Below.refl _ _⟩
      · have hp : 1 < n := by omega
        clear hn0 hn1
        go_enter Try.func80, Try.ntmps80
        go_wp2
        go_ret2
        exact ⟨none, 0, rfl, OB.nil _ _, Below.refl _ _⟩
theorem rFuse_any {w : World} {g : Nat} {m : DM} {fp : Nat → Prop} (h : DiskR w g m fp) (k : Int) (hk : k ≤ 9223372036854775807) :
    Calls Try.prog 81 #[.pointer (some ⟨g, 0, none⟩), .int .i64 k] w fun e w' => e = .returned (.tuple #[]) ∧ DiskR w' g (m.setFuse k) fp ∧ Stp w w' fp fp := by
  obtain ⟨A0, c0, A1, c1, hd, hf, hf0, hf1⟩ := h
  obtain ⟨k0, k1, k2, k3, k4, k5, k6⟩ := hd.cells
  have fz := hd.fz 6
  have hfin : ∀ x : Int, x = leftOf (m.setFuse k).fuse → DiskR (w.setCell ⟨g, 6, none⟩ (.int .i64 x)) g (m.setFuse k) fp ∧ Stp w (w.setCell ⟨g, 6, none⟩ (.int .i64 x)) fp fp := by
    rintro x rfl
    obtain ⟨q0, q1⟩ := hd.rset (keeps_set w g 6 (.int .i64 (leftOf (m.setFuse k).fuse)))
    exact ⟨⟨A0, c0, A1, c1, ⟨hd.blk.set_ 6 _, q0, q1, hd.n0, hd.n1, hd.k0, hd.k1, hd.z0, hd.z1, hd.ok.fuse k hk⟩, hf, hf0, hf1⟩, (keeps_set w g 6 _).mono (fun k hk => by rw [hk]; exact hf), fun _ h => .inl h⟩
  by_cases hp : 0 ≤ k
  · have HP := Lib.hid (hfin k (by simp [DM.setFuse, hp, leftOf]; omega))
    have hmx : ¬ k < -1 := by omega
    clear hfin
    go_enter Try.func81, Try.ntmps81
    go_wp2
    go_end0
    exact ⟨rfl, HP.out⟩
  · have HP := Lib.hid (hfin (-1) (by simp [DM.setFuse, hp, leftOf]))
    clear hfin
    by_cases hm1 : k < -1
    · go_enter Try.func81, Try.ntmps81
      go_wp2
      go_end0
      exact ⟨rfl, HP.out⟩
    · obtain rfl : k = -1 := by omega
      go_enter Try.func81, Try.ntmps81
      go_wp2
      go_end0
      exact ⟨rfl, HP.out⟩
theorem rNewDisk_no (n : Int) (w : World) (hn : n < 64 ∨ 1048576 < n) :
    Calls Try.prog 24 #[.int .i64 n] w fun e w' => e = .returned (.tuple #[.pointer none, .int .i64 2]) ∧ w = w' := by
  rcases hn with h | h
  · go_enter Try.func24, Try.ntmps24
    go_wp2
    go_ret2
    exact ⟨rfl, rfl⟩
  · have h' : ¬ n < 64 := by omega
    go_enter Try.func24, Try.ntmps24
    go_wp2
    go_ret2
    exact ⟨rfl, rfl⟩
theorem rNewDisk_yes (n : Nat) (w : World) (h0 : 64 ≤ n) (h1 : n ≤ 1048576) :
    Calls Try.prog 24 #[.int .i64 n] w fun e w' => ∃ g, e = .returned (.tuple #[.pointer (some ⟨g, 0, none⟩), .int .i64 0]) ∧ DiskR w' g (DM.new n) (fun k => k = g) ∧ w.heap.size ≤ g ∧ g < w'.heap.size ∧ Below w.heap.size w w' := by
  have h0' : ¬ (n : Int) < 64 := by omega
  have h1' : ¬ 1048576 < (n : Int) := by omega
  go_enter Try.func24, Try.ntmps24
  go_wp2
  go_ret2
  exact ⟨_, rfl, ⟨none, 0, none, 0, ⟨Blk.new w 147 _, RB.zero _ _ _, RB.zero _ _ _, (fun _ e => nomatch e), (fun _ e => nomatch e), Nat.le_refl _, Nat.le_refl _, Nat.zero_le _, Nat.zero_le _, ⟨h0, h1, Nat.zero_le _, Nat.zero_le _, Nat.le_refl _, Nat.le_refl _, (fun k hk => nomatch hk)⟩⟩, rfl, (fun _ e => nomatch e), (fun _ e => nomatch e)⟩, Nat.le_refl _, by simp, (Below.refl _ _).alloc (Nat.le_refl _) _⟩
end Go.Proofs.Ytabdnepfcohncaa
