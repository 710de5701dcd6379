import Derived.Test.YtabdnepfcohncaaR3
namespace Go.Proofs.Ytabdnepfcohncaa
open Go.RowKit
set_option linter.unusedVariables false
set_option maxRecDepth 100000 in
theorem frames_walk (A : Option Addr) (n c : Nat) (p : List UInt8) (w : World) (hr : RB w w.heap.size A n p) (hc : n ≤ c) (hcm : c ≤ maxLen) :
    Calls Try.prog 4 #[.slice A n c] w fun e w' => e = .returned (.bool true) ∧ Below w.heap.size w w' := by
  have hcm' : c ≤ 9223372036854775807 := hcm
  by_cases hn : 140000 < n
  · go_enter Try.func4, Try.ntmps4
    go_wp2_with fail
    refine (awake_any _).mono ?_
    rintro e w1 ⟨rfl, hb1⟩
    go_wp2
    go_ret
    exact ⟨rfl, hb1⟩
  · by_cases hs : n ≤ 65536
    · go_enter Try.func4, Try.ntmps4
      go_wp2_with fail
      refine (Frame_sl _ _ _ _ _ _ hr (Nat.le_refl _) hs).mono ?_
      rintro e w1 ⟨g, c1, rfl, h1, h2, h3, b1⟩
      have r1 := hr.below b1 (Nat.le_refl _)
      go_wp2_with fail
      refine (rFrame_ok _ _ _ _ _ _ r1 b1.size hs).mono ?_
      rintro e w2 ⟨A2, c2, rfl, h4, h5, h6, b2⟩
      have b12 := b1.trans (b2.mono b1.size)
      have r2 := hr.below b12 (Nat.le_refl _)
      go_wp2_with fail
      refine (Frames_sl _ _ _ _ _ _ r2 b12.size (by omega) hc hcm).mono ?_
      rintro e w3 ⟨A3, c3, rfl, h7, h8, h9, b3⟩
      have b13 := b12.trans (b3.mono b12.size)
      have r3 := hr.below b13 (Nat.le_refl _)
      go_wp2_with fail
      refine (rFrames_sl _ _ _ _ _ _ r3 b13.size (by omega) hc hcm).mono ?_
      rintro e w4 ⟨A4, c4, rfl, h10, h11, h12, b4⟩
      have b14 := b13.trans (b4.mono b13.size)
      have q1 : RB w4 w1.heap.size (some ⟨g, 0, none⟩) (n + 8) (frm p) := (h1.read.1.below (b2.trans (b3.mono b2.size)) (Nat.le_refl _)).below b4 (Nat.le_trans b2.size b3.size)
      have q2 : RB w4 w2.heap.size A2 (n + 8) (frm p) := (h4.read.1.below b3 (Nat.le_refl _)).below b4 b3.size
      have q3 := h9.below b4 (Nat.le_refl _)
      have m1 := h9.len
      go_wp2_with fail
      refine (Equal_any _ _ _ _ _ _ _ _ _ _ _ q1 q2).mono ?_
      rintro e w5 ⟨rfl, rfl⟩
      rw [show (frm p == frm p) = true by simp]
      go_wp2_with fail
      refine (EqualFunc_any _ _ _ _ _ _ _ _ _ _ _ q3 h12 (Nat.le_trans h7 h8) (Nat.le_trans h10 h11)).mono ?_
      rintro e w5 ⟨rfl, rfl⟩
      rw [show ((frames p).1 == (frames p).1) = true by simp]
      go_wp2_with fail
      refine (awake_any _).mono ?_
      rintro e w6 ⟨rfl, hb6⟩
      go_wp2
      go_ret
      exact ⟨rfl, b14.trans (hb6.mono b14.size)⟩
    · go_enter Try.func4, Try.ntmps4
      go_wp2_with fail
      refine (Frame_big _ _ _ _ (by omega) (Nat.le_trans hc hcm)).mono ?_
      rintro e w1 ⟨rfl, rfl⟩
      go_wp2_with fail
      refine (rFrame_big _ _ _ _ (by omega) (Nat.le_trans hc hcm)).mono ?_
      rintro e w2 ⟨rfl, rfl⟩
      go_wp2_with fail
      refine (Frames_sl _ _ _ _ _ _ hr (Nat.le_refl _) (by omega) hc hcm).mono ?_
      rintro e w3 ⟨A3, c3, rfl, h7, h8, h9, b3⟩
      have r3 := hr.below b3 (Nat.le_refl _)
      go_wp2_with fail
      refine (rFrames_sl _ _ _ _ _ _ r3 b3.size (by omega) hc hcm).mono ?_
      rintro e w4 ⟨A4, c4, rfl, h10, h11, h12, b4⟩
      have b14 := b3.trans (b4.mono b3.size)
      have q3 := h9.below b4 (Nat.le_refl _)
      go_wp2_with fail
      refine (Equal_any _ _ _ _ _ _ _ _ _ _ _ (RB.zero w4 0 none) (RB.zero w4 0 none)).mono ?_
      rintro e w5 ⟨rfl, rfl⟩
      rw [show (([] : List UInt8) == []) = true by rfl]
      go_wp2_with fail
      refine (EqualFunc_any _ _ _ _ _ _ _ _ _ _ _ q3 h12 (Nat.le_trans h7 h8) (Nat.le_trans h10 h11)).mono ?_
      rintro e w5 ⟨rfl, rfl⟩
      rw [show ((frames p).1 == (frames p).1) = true by simp]
      go_wp2_with fail
      refine (awake_any _).mono ?_
      rintro e w6 ⟨rfl, hb6⟩
      go_wp2
      go_ret
      exact ⟨rfl, b14.trans (hb6.mono b14.size)⟩
end Go.Proofs.Ytabdnepfcohncaa
