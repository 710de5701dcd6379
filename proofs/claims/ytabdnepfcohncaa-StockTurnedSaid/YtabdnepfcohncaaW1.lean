import Derived.Test.YtabdnepfcohncaaT5
namespace Go.Proofs.Ytabdnepfcohncaa
open Go.RowKit
set_option linter.unusedVariables false
set_option maxRecDepth 100000 in
theorem turned_walk (A : Option Addr) (n c : Nat) (p : List UInt8) (a b : Int) (w : World) (hr : RB w w.heap.size A n p) (hc : n ≤ c) (hcm : c ≤ maxLen)
    (ha : -9223372036854775808 ≤ a ∧ a ≤ 9223372036854775807) (hb : 0 ≤ b ∧ b ≤ 255) :
    Calls Try.prog 3 #[.slice A n c, .int .i64 a, .int .u8 b] w fun e w' => e = .returned (.bool true) ∧ Below w.heap.size w w' := by
  have hcm' : c ≤ 9223372036854775807 := hcm
  by_cases hn : 5000 < n
  · go_enter Try.func3, Try.ntmps3
    go_wp2_with fail
    refine (awake_any _).mono ?_
    rintro e w1 ⟨rfl, hb1⟩
    go_wp2
    go_ret
    exact ⟨rfl, hb1⟩
  · go_enter Try.func3, Try.ntmps3
    go_wp2_with fail
    refine (Frame_sl _ _ _ _ _ _ hr (Nat.le_refl _) (by omega)).mono ?_
    rintro e w1 ⟨g, c1, rfl, h1, h2, h3, h4⟩
    have h3' : c1 ≤ 9223372036854775807 := h3
    go_wp2_with fail
    refine (Frames_sl _ _ _ _ _ _ h1.read.1 (Nat.le_refl _) (by omega) h2 h3).mono ?_
    rintro e w2 ⟨A2, c2, rfl, h5, h6, h7, h8⟩
    rw [frames_frm p (by rw [hr.len]; omega)] at h5 h7 ⊢
    simp only [List.length_cons, List.length_nil, Nat.zero_add] at h5 h7 ⊢
    obtain ⟨ad2, A3, n3, c3, rfl, hb2, hc2, hn3, hm3, hr3⟩ := h7.at_ (i := 0) (by simp)
    obtain rfl : n = n3 := by have := hr3.len; have := hr.len; simp at *; omega
    have hc0 : w2.cell? ad2 = some (.slice A3 n c3) := hc2
    clear hc2
    go_wp2_with fail
    refine (Equal_any _ _ _ _ _ _ p p _ _ _ hr3 ((hr.below h4 (Nat.le_refl _)).below h8 h4.size)).mono ?_
    rintro e w3 ⟨rfl, rfl⟩
    rw [show (p == p) = true by simp]
    obtain ⟨i, hi, hi4, hin⟩ := turn_index a n (by omega)
    have hif : i < (frm p).length := by rw [frm_length, hr.len]; exact hin
    obtain ⟨y, hy, hyx⟩ := u8_turn (frm p)[i] b hb.1 hb.2
    have HY := Lib.hid hyx
    clear hyx
    obtain ⟨cs, hcs, hcz⟩ : ∃ cs, w1.heap[g]? = some (.cells cs 5 (0, 0)) ∧ w.heap.size ≤ g := by
      rcases h1.2 with ⟨h, _⟩ | ⟨g', _, cs, h, h', h'', _⟩
      · cases h
      · injection h with h _ _; injection h with h; injection h with h; subst h; exact ⟨cs, h'', h'⟩
    have hgl : g < w1.heap.size := (Array.getElem?_eq_some_iff.1 hcs).1
    have hcs2 : w2.heap[g]? = some (.cells cs 5 (0, 0)) := (h8.block g hgl).trans hcs
    have hfz : w2.frozen? ⟨g, i, none⟩ = false := by simp [World.frozen?, hcs2]
    have hrf : RB w2 w1.heap.size (some ⟨g, 0, none⟩) (n + 8) (frm p) := h1.read.1.below h8 (Nat.le_refl _)
    have hci : w2.cell? ⟨g, i, none⟩ = some (.int .u8 (frm p)[i].toNat) := by
      obtain ⟨ad', e, _, h⟩ := hrf.at_ (k := i) (by omega)
      injection e with e; subst e
      rwa [Addr.add_lit, Nat.zero_add] at h
    clear hcs hcs2
    generalize hx : (frm p)[i] = x at *
    have HX := Lib.hid hx
    clear hx
    have hset : RB (w2.setCell ⟨g, i, none⟩ (.int .u8 y.toNat)) w1.heap.size (some ⟨g, 0, none⟩) (n + 8) ((frm p).set i y) := by
      have h := hrf.set_ i hin y
      rwa [Addr.add_lit, Nat.zero_add] at h
    have hft : frames ((frm p).set i y) = ([], (frm p).set i y) := frames_turned p (by rw [hr.len]; omega) i y hi4 hif (by rw [HX.out]; exact HY.out)
    have HT := Lib.hid hft
    clear hft
    have hsz := h8.size
    go_wp2_with fail
    refine (Frames_sl _ _ _ _ _ _ hset (by simpa using hsz) (by omega) h2 h3).mono ?_
    rintro e w4 ⟨A4, c4, rfl, g1, g2, g3, g4⟩
    rw [HT.out] at g1 g3 ⊢
    simp only [List.length_nil, List.length_set, frm_length, hr.len] at g1 g3 ⊢
    go_wp2_with fail
    refine (awake_any _).mono ?_
    rintro e w5 ⟨rfl, hb5⟩
    go_wp2
    go_ret
    refine ⟨rfl, ((((h4.trans (h8.mono h4.size)).setCell (p := ⟨g, i, none⟩) hcz _).trans (g4.mono ?_)).trans (hb5.mono ?_))⟩
    · have := h4.size; simp; omega
    · have := h4.size; have := g4.size; simp at *; omega
end Go.Proofs.Ytabdnepfcohncaa
