import Derived.Test.YtabdnepfcohncaaE1
namespace Go.Proofs.Ytabdnepfcohncaa
open Go.RowKit
set_option linter.unusedVariables false
set_option linter.unusedSimpArgs false
set_option maxHeartbeats 1000000 in
theorem rAppend_0 {w : World} {g : Nat} {m : DM} {fp : Nat → Prop} (h : DiskR w g m fp) {B : Nat} {A : Option Addr} {k c : Nat} {b : List UInt8} (hr : RB w B A k b) (hB : B ≤ w.heap.size) (hk : k ≤ 2000000) (hA : ∀ ad, A = some ad → ¬ fp ad.block) :
    Calls Try.prog 77 #[.pointer (some ⟨g, 0, none⟩), .int .i64 0, .slice A k c] w fun e w' => e = .returned (.int .i64 (m.append 0 b).1) ∧ ∃ fp', DiskR w' g (m.append 0 b).2 fp' ∧ Stp w w' fp fp' := by
  have h0 := h
  obtain ⟨A0, c0, A1, c1, hd, hf, hf0, hf1⟩ := h
  have hkl := hr.len
  obtain ⟨k0, k1, k2, k3, k4, k5, k6⟩ := hd.cells
  have hok := hd.ok
  have b0 := hok.m0
  have b1 := hok.m1
  have b2 := hok.a0
  have b3 := hok.a1
  by_cases hfull : m.most < m.l0.length + b.length
  · have e : m.append 0 b = (13, m) := by simp [DM.append, hfull]
    rw [e]
    have hdc : decide ((m.most : Int) < (m.l0.length : Int) + (k : Int)) = true := by simp; omega
    clear hkl hfull e
    go_enter Try.func77, Try.ntmps77
    go_wp2_with fail
    go_quiet (fail)
    go_wp2
    go_ret
    exact ⟨rfl, fp, h0.drewN nq, stp_draw _ _ _⟩
  · have hdc : decide ((m.most : Int) < (m.l0.length : Int) + (k : Int)) = false := by simp; omega
    have hlb : m.l0.length + b.length ≤ m.most := by omega
    have HK := Lib.hid hkl
    obtain ⟨e1, e2, e3, e4, e5⟩ := m.spend_same
    cases hb : m.spend.1 with
    | false =>
      rw [show m.append 0 b = (14, m.spend.2) by simp [DM.append, hfull, hb]]
      clear hkl hfull e1 e2 e3 e4 e5
      go_enter Try.func77, Try.ntmps77
      go_wp2_with fail
      go_quiet (fail)
      go_wp2_with fail
      refine (done_any (hd.drewN nq)).mono ?_
      rintro e w1 ⟨rfl, hd1, hk1⟩
      go_wp2
      go_ret
      exact ⟨rfl, fp, ⟨A0, c0, A1, c1, hd1, hf, hf0, hf1⟩, (stp_draw _ nq _).trans ⟨hk1.mono (fun k hk => by rw [hk]; exact hf), fun _ h => .inl h⟩⟩
    | true =>
      rw [show m.append 0 b = (0, { m.spend.2 with l0 := m.l0 ++ b }) by simp [DM.append, hfull, hb]]
      have HE := Lib.hid (And.intro e1 (And.intro e2 e3))
      clear hkl hfull e1 e2 e3 e4 e5
      go_enter Try.func77, Try.ntmps77
      go_wp2_with fail
      go_quiet (fail)
      go_wp2_with fail
      refine (done_any (hd.drewN nq)).mono ?_
      rintro e w1 ⟨rfl, hd1, hk1⟩
      clear k0 k1 k2 k3 k4 k5 k6
      have hr1 : RB w1 B A k b := RB.keeps (Reads.drewN hr nq) hk1 hB (fun _ ad ha e => hA ad ha (by rw [e]; exact hf))
      clear hk
      obtain ⟨k0, k1, k2, k3, k4, k5, k6⟩ := hd1.cells
      have f1 := hd1.fz 1
      go_wp2_with fail
      have ka : (w1.alloc (.cells #[] 5)).cell? ⟨g, 1, none⟩ = some (.slice A0 m.spend.2.l0.length c0) := (hd1.blk.alloc (.cells #[] 5)).cell 1
      have ho0 : OB (w1.alloc (.cells #[] 5)).drew w1.heap.size (.slice (some ⟨w1.heap.size, 0, none⟩) 0 0) [] := OB.empty w1 w1.heap.size (Nat.le_refl _)
      have hs0 : w1.heap.size ≤ (w1.alloc (.cells #[] 5)).drew.heap.size := by simp
      have hq0 : RB (w1.alloc (.cells #[] 5)).drew w1.heap.size A0 m.spend.2.l0.length m.spend.2.l0 := Reads.alloc (w := w1) hd1.r0 (Nat.le_refl _) _
      have hn0 : ([] : List UInt8).length + m.spend.2.l0.length ≤ 140737488355328 := by rw [HE.out.2.1]; simp; omega
      have hra : RB (w1.alloc (.cells #[] 5)).drew B A k b := Reads.alloc (w := w1) hr1 (Nat.le_trans hB hk1.size) _
      have H := Lib.hid (And.intro ho0 (And.intro hs0 (And.intro hq0 (And.intro hn0 hra))))
      clear ho0 hs0 hq0 hn0 hra
      have hbk : Blk (w1.alloc (.cells #[] 5)).drew g 147 _ := hd1.blk.alloc (.cells #[] 5)
      have hgl := hd1.blk.lt
      go_region_law (first | (refine step_app8 rfl (.tmp 36) (.tmp 42) rfl rfl H.out.1 rfl H.out.2.2.1 H.out.2.2.2.1 H.out.2.1 ?_; intro v2 w2 ho2 hu2; have hb2 := hu2.below_own H.out.2.1 H.out.1; have hr2 := H.out.2.2.2.2.below hb2 (Nat.le_trans hB hk1.size); have HS2 := Lib.hid (Nat.le_trans H.out.2.1 hu2.size); have hbk2 := hbk.below hb2 hgl) | (refine step_app8 rfl (.tmp 43) (.tmp 44) rfl rfl ho2 rfl hr2 (by simp; rw [HE.out.2.1]; have := HK.out; omega) HS2.out ?_; intro v3 w3 ho3 hu3; have hb3 := hu3.below_own HS2.out ho2; obtain ⟨A3, c3, rfl, hc3, hm3, hr3⟩ := ho3.form; have hbk3 := hbk2.below hb3 hgl; have kb : w3.cell? ⟨g, 1, none⟩ = some (.slice A0 m.spend.2.l0.length c0) := hbk3.cell 1; have fb : w3.frozen? ⟨g, 1, none⟩ = false := hbk3.frozen 1))
      all_goals
        have hb13 : Below w1.heap.size w1 w3 := (((Below.refl _ _).alloc (Nat.le_refl _) (.cells #[] 5)).drew.trans hb2).trans hb3
        have HP := Lib.hid (hd1.put0 hf hf1 hb13 hr3.2 ho3.blk_lt hc3 hm3 (by rw [List.length_append]; simp only [List.nil_append]; rw [HE.out.2.1, HE.out.1]; omega) (by rw [List.length_append]; simp only [List.nil_append]; have := hd1.ok.b0; omega))
        go_wp2
        go_ret
        obtain ⟨fp', hp, hst⟩ := HP.out
        simp only [List.nil_append, HE.out.2.1, List.length_append] at hp hst ⊢
        exact ⟨rfl, fp', hp, (stp_draw _ nq _).trans ((Stp.mk (hk1.mono (fun k hk => by rw [hk]; exact hf)) (fun _ h => .inl h)).trans hst)⟩
set_option maxHeartbeats 1000000 in
theorem rAppend_1 {w : World} {g : Nat} {m : DM} {fp : Nat → Prop} (h : DiskR w g m fp) {B : Nat} {A : Option Addr} {k c : Nat} {b : List UInt8} (hr : RB w B A k b) (hB : B ≤ w.heap.size) (hk : k ≤ 2000000) (hA : ∀ ad, A = some ad → ¬ fp ad.block) :
    Calls Try.prog 77 #[.pointer (some ⟨g, 0, none⟩), .int .i64 1, .slice A k c] w fun e w' => e = .returned (.int .i64 (m.append 1 b).1) ∧ ∃ fp', DiskR w' g (m.append 1 b).2 fp' ∧ Stp w w' fp fp' := by
  have h0 := h
  obtain ⟨A0, c0, A1, c1, hd, hf, hf0, hf1⟩ := h
  have hkl := hr.len
  obtain ⟨k0, k1, k2, k3, k4, k5, k6⟩ := hd.cells
  have hok := hd.ok
  have b0 := hok.m0
  have b1 := hok.m1
  have b2 := hok.a0
  have b3 := hok.a1
  by_cases hfull : m.most < m.l1.length + b.length
  · have e : m.append 1 b = (13, m) := by simp [DM.append, hfull]
    rw [e]
    have hdc : decide ((m.most : Int) < (m.l1.length : Int) + (k : Int)) = true := by simp; omega
    clear hkl hfull e
    go_enter Try.func77, Try.ntmps77
    go_wp2_with fail
    go_quiet (fail)
    go_wp2
    go_ret
    exact ⟨rfl, fp, h0.drewN nq, stp_draw _ _ _⟩
  · have hdc : decide ((m.most : Int) < (m.l1.length : Int) + (k : Int)) = false := by simp; omega
    have hlb : m.l1.length + b.length ≤ m.most := by omega
    have HK := Lib.hid hkl
    obtain ⟨e1, e2, e3, e4, e5⟩ := m.spend_same
    cases hb : m.spend.1 with
    | false =>
      rw [show m.append 1 b = (14, m.spend.2) by simp [DM.append, hfull, hb]]
      clear hkl hfull e1 e2 e3 e4 e5
      go_enter Try.func77, Try.ntmps77
      go_wp2_with fail
      go_quiet (fail)
      go_wp2_with fail
      refine (done_any (hd.drewN nq)).mono ?_
      rintro e w1 ⟨rfl, hd1, hk1⟩
      go_wp2
      go_ret
      exact ⟨rfl, fp, ⟨A0, c0, A1, c1, hd1, hf, hf0, hf1⟩, (stp_draw _ nq _).trans ⟨hk1.mono (fun k hk => by rw [hk]; exact hf), fun _ h => .inl h⟩⟩
    | true =>
      rw [show m.append 1 b = (0, { m.spend.2 with l1 := m.l1 ++ b }) by simp [DM.append, hfull, hb]]
      have HE := Lib.hid (And.intro e1 (And.intro e4 e5))
      clear hkl hfull e1 e2 e3 e4 e5
      go_enter Try.func77, Try.ntmps77
      go_wp2_with fail
      go_quiet (fail)
      go_wp2_with fail
      refine (done_any (hd.drewN nq)).mono ?_
      rintro e w1 ⟨rfl, hd1, hk1⟩
      clear k0 k1 k2 k3 k4 k5 k6
      have hr1 : RB w1 B A k b := RB.keeps (Reads.drewN hr nq) hk1 hB (fun _ ad ha e => hA ad ha (by rw [e]; exact hf))
      clear hk
      obtain ⟨k0, k1, k2, k3, k4, k5, k6⟩ := hd1.cells
      have f1 := hd1.fz 2
      go_wp2_with fail
      have ka : (w1.alloc (.cells #[] 5)).cell? ⟨g, 2, none⟩ = some (.slice A1 m.spend.2.l1.length c1) := (hd1.blk.alloc (.cells #[] 5)).cell 2
      have ho0 : OB (w1.alloc (.cells #[] 5)).drew w1.heap.size (.slice (some ⟨w1.heap.size, 0, none⟩) 0 0) [] := OB.empty w1 w1.heap.size (Nat.le_refl _)
      have hs0 : w1.heap.size ≤ (w1.alloc (.cells #[] 5)).drew.heap.size := by simp
      have hq0 : RB (w1.alloc (.cells #[] 5)).drew w1.heap.size A1 m.spend.2.l1.length m.spend.2.l1 := Reads.alloc (w := w1) hd1.r1 (Nat.le_refl _) _
      have hn0 : ([] : List UInt8).length + m.spend.2.l1.length ≤ 140737488355328 := by rw [HE.out.2.1]; simp; omega
      have hra : RB (w1.alloc (.cells #[] 5)).drew B A k b := Reads.alloc (w := w1) hr1 (Nat.le_trans hB hk1.size) _
      have H := Lib.hid (And.intro ho0 (And.intro hs0 (And.intro hq0 (And.intro hn0 hra))))
      clear ho0 hs0 hq0 hn0 hra
      have hbk : Blk (w1.alloc (.cells #[] 5)).drew g 147 _ := hd1.blk.alloc (.cells #[] 5)
      have hgl := hd1.blk.lt
      go_region_law (first | (refine step_app8 rfl (.tmp 36) (.tmp 42) rfl rfl H.out.1 rfl H.out.2.2.1 H.out.2.2.2.1 H.out.2.1 ?_; intro v2 w2 ho2 hu2; have hb2 := hu2.below_own H.out.2.1 H.out.1; have hr2 := H.out.2.2.2.2.below hb2 (Nat.le_trans hB hk1.size); have HS2 := Lib.hid (Nat.le_trans H.out.2.1 hu2.size); have hbk2 := hbk.below hb2 hgl) | (refine step_app8 rfl (.tmp 43) (.tmp 44) rfl rfl ho2 rfl hr2 (by simp; rw [HE.out.2.1]; have := HK.out; omega) HS2.out ?_; intro v3 w3 ho3 hu3; have hb3 := hu3.below_own HS2.out ho2; obtain ⟨A3, c3, rfl, hc3, hm3, hr3⟩ := ho3.form; have hbk3 := hbk2.below hb3 hgl; have kb : w3.cell? ⟨g, 2, none⟩ = some (.slice A1 m.spend.2.l1.length c1) := hbk3.cell 2; have fb : w3.frozen? ⟨g, 2, none⟩ = false := hbk3.frozen 2))
      all_goals
        have hb13 : Below w1.heap.size w1 w3 := (((Below.refl _ _).alloc (Nat.le_refl _) (.cells #[] 5)).drew.trans hb2).trans hb3
        have HP := Lib.hid (hd1.put1 hf hf0 hb13 hr3.2 ho3.blk_lt hc3 hm3 (by rw [List.length_append]; simp only [List.nil_append]; rw [HE.out.2.1, HE.out.1]; omega) (by rw [List.length_append]; simp only [List.nil_append]; have := hd1.ok.b1; omega))
        go_wp2
        go_ret
        obtain ⟨fp', hp, hst⟩ := HP.out
        simp only [List.nil_append, HE.out.2.1, List.length_append] at hp hst ⊢
        exact ⟨rfl, fp', hp, (stp_draw _ nq _).trans ((Stp.mk (hk1.mono (fun k hk => by rw [hk]; exact hf)) (fun _ h => .inl h)).trans hst)⟩
theorem rat_x {w : World} {g : Nat} {m : DM} {fp : Nat → Prop} (h : DiskR w g m fp) (n : Int) (hn0 : n ≠ 0) (hn1 : n ≠ 1) {A : Option Addr} {k c : Nat} (b : List UInt8) :
    Calls Try.prog 77 #[.pointer (some ⟨g, 0, none⟩), .int .i64 n, .slice A k c] w fun e w' => e = .returned (.int .i64 (m.append n b).1) ∧ ∃ fp', DiskR w' g (m.append n b).2 fp' ∧ Stp w w' fp fp' := by
  rw [show m.append n b = (2, m) by simp [DM.append, hn0, hn1]]
  by_cases hneg : n < 0
  · go_enter Try.func77, Try.ntmps77
    go_wp2
    go_ret
    exact ⟨rfl, fp, h, Stp.refl _ _⟩
  · have hp : 1 < n := by omega
    clear hn0 hn1
    go_enter Try.func77, Try.ntmps77
    go_wp2
    go_ret
    exact ⟨rfl, fp, h, Stp.refl _ _⟩
theorem rAppend_any {w : World} {g : Nat} {m : DM} {fp : Nat → Prop} (h : DiskR w g m fp) (n : Int) {B : Nat} {A : Option Addr} {k c : Nat} {b : List UInt8} (hr : RB w B A k b) (hB : B ≤ w.heap.size) (hk : k ≤ 2000000) (hA : ∀ ad, A = some ad → ¬ fp ad.block) :
    Calls Try.prog 77 #[.pointer (some ⟨g, 0, none⟩), .int .i64 n, .slice A k c] w fun e w' => e = .returned (.int .i64 (m.append n b).1) ∧ ∃ fp', DiskR w' g (m.append n b).2 fp' ∧ Stp w w' fp fp' := by
  by_cases hn0 : n = 0
  · subst hn0; exact rAppend_0 h hr hB hk hA
  · by_cases hn1 : n = 1
    · subst hn1; exact rAppend_1 h hr hB hk hA
    · exact rat_x h n hn0 hn1 b
end Go.Proofs.Ytabdnepfcohncaa
