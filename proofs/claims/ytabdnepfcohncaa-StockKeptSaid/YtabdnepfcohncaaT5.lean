import Derived.Test.YtabdnepfcohncaaT4
import Derived.Test.YtabdnepfcohncaaTurn
namespace Go.Proofs.Ytabdnepfcohncaa
open Go.RowKit
theorem Frame_sl (B : Nat) (A : Option Addr) (n c : Nat) (p : List UInt8) (w : World) (hr : RB w B A n p) (hB : B ≤ w.heap.size) (hn : n ≤ 65536) :
    Calls Try.prog 17 #[.slice A n c] w fun e w' => ∃ g c', e = .returned (.tuple #[.slice (some ⟨g, 0, none⟩) (n + 8) c', .int .i64 0]) ∧ OB w' w.heap.size (.slice (some ⟨g, 0, none⟩) (n + 8) c') (frm p) ∧ n + 8 ≤ c' ∧ c' ≤ maxLen ∧ Below w.heap.size w w' := by
  refine (Frame_ok B A n c p w hr hB hn).mono ?_
  rintro e w' ⟨v, rfl, h1, h2⟩
  have hl := frm_length p
  have := hr.len
  rcases h1.2 with ⟨_, h3⟩ | ⟨g, cap, cur, rfl, h3, h4, h5, h6, h7⟩
  · omega
  · have e : (frm p).length = n + 8 := by omega
    rw [e] at h1 h5 ⊢
    exact ⟨g, cap, rfl, h1, h5, h6, h2⟩
theorem awake_any (w : World) : Calls Try.prog 16 #[] w fun e w' => e = .returned (.bool true) ∧ Below w.heap.size w w' := by
  go_enter Try.func16, Try.ntmps16
  go_wp2_with fail
  refine (Frame_sl _ _ _ _ [97] _ (RB_new w _ _ [97] 1 rfl rfl) (by simp) (by omega)).mono ?_
  rintro e w1 ⟨g, c1, rfl, h1, h2, h3, h4⟩
  have hr := h1.read.1
  have hb := h4.size
  simp at hb
  go_wp2_with fail
  refine (Equal_any _ _ _ _ _ _ (frm [97]) [0, 0, 0, 1, 97, 0xE8, 0xB7, 0xBE, 0x43] _ _ _ (hr.more (Nat.le_refl _) |>.alloc (Nat.le_refl _) _) (RB_new w1 _ _ [0, 0, 0, 1, 97, 0xE8, 0xB7, 0xBE, 0x43] 9 rfl rfl)).mono ?_
  rintro e w2 ⟨rfl, rfl⟩
  rw [show ((frm [97] == [0, 0, 0, 1, 97, 0xE8, 0xB7, 0xBE, 0x43]) = true) by decide]
  go_wp2
  go_ret
  exact ⟨rfl, ((Below.refl _ _).alloc (Nat.le_refl _) _ |>.trans (h4.mono (by simp))).alloc (by omega) _⟩
end Go.Proofs.Ytabdnepfcohncaa
