import Derived.Test.YtabdnepfcohncaaD2
namespace Go.Proofs.Ytabdnepfcohncaa
open Go.RowKit
set_option linter.unusedVariables false
theorem Read_any {w : World} {g : Nat} {m : DM} {fp : Nat → Prop} (h : DiskP w g m fp) (n : Int) :
    Calls Try.prog 53 #[.pointer (some ⟨g, 0, none⟩), .int .i64 n] w fun e w' => ∃ A c, e = .returned (.tuple #[.slice A (m.read n).1.length c, .int .i64 (m.read n).2]) ∧ OB w' w.heap.size (.slice A (m.read n).1.length c) (m.read n).1 ∧ Below w.heap.size w w' := by
  obtain ⟨left, A0, c0, A1, c1, hd, hf, hf0, hf1⟩ := h
  obtain ⟨k0, k1, k2, k3, k4, k5, k6, k7⟩ := hd.cells
  have b0 := hd.ok.m0
  have b1 := hd.ok.m1
  have b2 := hd.ok.a0
  have b3 := hd.ok.a1
  have r0 := hd.o0.read.1
  have r1 := hd.o1.read.1
  by_cases hn0 : n = 0
  · subst hn0
    cases hb : m.off with
    | true =>
      rw [show m.read 0 = ([], 14) by simp [DM.read, hb]]
      rw [hb] at k0
      clear hb
      go_enter Try.func53, Try.ntmps53
      go_wp2_with fail
      refine (at_0 k7 (by omega)).mono ?_
      rintro e w1 ⟨rfl, rfl⟩
      go_wp2
      go_ret2
      exact ⟨none, 0, rfl, OB.nil _ _, Below.refl _ _⟩
    | false =>
      rw [show m.read 0 = (m.l0, 0) by simp [DM.read, hb]]
      rw [hb] at k0
      clear hb
      go_enter Try.func53, Try.ntmps53
      go_wp2_with fail
      refine (at_0 k7 (by omega)).mono ?_
      rintro e w1 ⟨rfl, rfl⟩
      go_wp2_with fail
      refine (Clone_sl _ _ _ _ _ _ r0 (Nat.le_refl _) (by omega)).mono ?_
      rintro e w1 ⟨A, c, rfl, ho, hb⟩
      go_wp2
      go_ret2
      exact ⟨A, c, rfl, ho, hb⟩
  · by_cases hn1 : n = 1
    · subst hn1
      clear hn0
      cases hb : m.off with
      | true =>
        rw [show m.read 1 = ([], 14) by simp [DM.read, hb]]
        rw [hb] at k0
        clear hb
        go_enter Try.func53, Try.ntmps53
        go_wp2_with fail
        refine (at_1 k7 (by omega)).mono ?_
        rintro e w1 ⟨rfl, rfl⟩
        go_wp2
        go_ret2
        exact ⟨none, 0, rfl, OB.nil _ _, Below.refl _ _⟩
      | false =>
        rw [show m.read 1 = (m.l1, 0) by simp [DM.read, hb]]
        rw [hb] at k0
        clear hb
        go_enter Try.func53, Try.ntmps53
        go_wp2_with fail
        refine (at_1 k7 (by omega)).mono ?_
        rintro e w1 ⟨rfl, rfl⟩
        go_wp2_with fail
        refine (Clone_sl _ _ _ _ _ _ r1 (Nat.le_refl _) (by omega)).mono ?_
        rintro e w1 ⟨A, c, rfl, ho, hb⟩
        go_wp2
        go_ret2
        exact ⟨A, c, rfl, ho, hb⟩
    · rw [show m.read n = ([], 2) by simp [DM.read, hn0, hn1]]
      go_enter Try.func53, Try.ntmps53
      go_wp2_with fail
      refine (at_x n k7 (by omega) hn0 hn1).mono ?_
      rintro e w1 ⟨rfl, rfl⟩
      go_wp2
      go_ret2
      exact ⟨none, 0, rfl, OB.nil _ _, Below.refl _ _⟩
theorem DP.fuse {w : World} {g : Nat} {m : DM} {left : Int} {A0 A1 : Option Addr} {c0 c1 : Nat} {fp : Nat → Prop} (h : DP w g m left A0 c0 A1 c1) (hf : fp g) (hf0 : ∀ k, blkOf A0 = some k → fp k) (hf1 : ∀ k, blkOf A1 = some k → fp k)
    (k : Int) (hk : k ≤ 9223372036854775807) (b : Bool) (l : Int) (hb : b = (m.setFuse k).fuse.isSome) (hl : ∀ j, (m.setFuse k).fuse = some j → l = j) :
    DiskP ((w.setCell ⟨g, 1, none⟩ (.bool b)).setCell ⟨g, 2, none⟩ (.int .i64 l)) g (m.setFuse k) fp ∧ Stp w ((w.setCell ⟨g, 1, none⟩ (.bool b)).setCell ⟨g, 2, none⟩ (.int .i64 l)) fp fp := by
  subst hb
  exact ⟨⟨l, A0, c0, A1, c1, ⟨(h.blk.set_ 1 _).set_ 2 _, hl, h.o0.keeps' (keeps_set2 w g 1 2 _ _) (fun i hi e => h.o0.ne_blk' h.blk (by decide) (by rw [hi, e])), h.o1.keeps' (keeps_set2 w g 1 2 _ _) (fun i hi e => h.o1.ne_blk' h.blk (by decide) (by rw [hi, e])), h.dis,
    h.ok.fuse k hk⟩, hf, hf0, hf1⟩, (keeps_set2 w g 1 2 _ _).mono (fun k hk => by rw [hk]; exact hf), fun _ h => .inl h⟩
theorem Fuse_any {w : World} {g : Nat} {m : DM} {fp : Nat → Prop} (h : DiskP w g m fp) (k : Int) (hk : k ≤ 9223372036854775807) :
    Calls Try.prog 58 #[.pointer (some ⟨g, 0, none⟩), .int .i64 k] w fun e w' => e = .returned (.tuple #[]) ∧ DiskP w' g (m.setFuse k) fp ∧ Stp w w' fp fp := by
  obtain ⟨left, A0, c0, A1, c1, hd, hf, hf0, hf1⟩ := h
  obtain ⟨k0, k1, k2, k3, k4, k5, k6, k7⟩ := hd.cells
  have b0 := hd.ok.m0
  have f1 := hd.fz 1
  have f2 := hd.fz 2
  have hm : decide ((0 : Int) < (m.most : Int)) = true := by simp; omega
  by_cases hp : 0 ≤ k
  · have HP := Lib.hid (hd.fuse hf hf0 hf1 k hk true k (by simp [DM.setFuse, hp]) (by intro j hj; simp [DM.setFuse, hp] at hj; omega))
    have hpd : decide ((0 : Int) ≤ k) = true := by simpa using hp
    have hmx : ¬ k < 0 := by omega
    go_enter Try.func58, Try.ntmps58
    go_wp2
    go_end0
    exact ⟨rfl, HP.out⟩
  · have HP := Lib.hid (hd.fuse hf hf0 hf1 k hk false 0 (by simp [DM.setFuse, hp]) (by simp [DM.setFuse, hp]))
    have hpd : decide ((0 : Int) ≤ k) = false := by simpa using hp
    have hmx : k < 0 := by omega
    go_enter Try.func58, Try.ntmps58
    go_wp2
    go_end0
    exact ⟨rfl, HP.out⟩
theorem NewDisk_no (n : Int) (w : World) (hn : n < 64 ∨ 1048576 < n) :
    Calls Try.prog 23 #[.int .i64 n] w fun e w' => e = .returned (.tuple #[.pointer none, .int .i64 2]) ∧ w = w' := by
  rcases hn with h | h
  · go_enter Try.func23, Try.ntmps23
    go_wp2
    go_ret2
    exact ⟨rfl, rfl⟩
  · have h' : ¬ n < 64 := by omega
    go_enter Try.func23, Try.ntmps23
    go_wp2
    go_ret2
    exact ⟨rfl, rfl⟩
theorem NewDisk_yes (n : Nat) (w : World) (h0 : 64 ≤ n) (h1 : n ≤ 1048576) :
    Calls Try.prog 23 #[.int .i64 n] w fun e w' => ∃ g, e = .returned (.tuple #[.pointer (some ⟨g, 0, none⟩), .int .i64 0]) ∧ DiskP w' g (DM.new n) (fun k => k = g) ∧ w.heap.size ≤ g ∧ g < w'.heap.size ∧ Below w.heap.size w w' := by
  have h0' : ¬ (n : Int) < 64 := by omega
  have h1' : ¬ 1048576 < (n : Int) := by omega
  go_enter Try.func23, Try.ntmps23
  go_wp2
  go_ret2
  exact ⟨_, rfl, ⟨0, none, 0, none, 0, ⟨Blk.new w 120 _, (fun k hk => nomatch hk), OB.nil _ _, OB.nil _ _, (fun i hi => nomatch hi), ⟨h0, h1, Nat.zero_le _, Nat.zero_le _, Nat.le_refl _, Nat.le_refl _, (fun k hk => nomatch hk)⟩⟩, rfl, (fun k hk => nomatch hk), (fun k hk => nomatch hk)⟩, Nat.le_refl _, by simp, (Below.refl _ _).alloc (Nat.le_refl _) _⟩
end Go.Proofs.Ytabdnepfcohncaa
