import Derived.Test.YtabdnepfcohncaaR1
namespace Go.Proofs.Ytabdnepfcohncaa
open Go.RowKit
set_option linter.unusedVariables false
theorem rframe_any (B : Nat) (A : Option Addr) (n c : Nat) (p : List UInt8) (w : World) (hr : RB w B A n p) (hB : B ≤ w.heap.size) (hl : n ≤ 140737488354000) :
    Calls Try.prog 74 #[.slice A n c] w fun e w' => ∃ A' c', e = .returned (.slice A' (n + 8) c') ∧ OB w' w.heap.size (.slice A' (n + 8) c') (frm p) ∧ n + 8 ≤ c' ∧ c' ≤ maxLen ∧ Below w.heap.size w w' := by
  obtain rfl := hr.len
  go_enter Try.func74, Try.ntmps74
  go_wp2_with fail
  refine (number_any _ 4 _ (by omega) _ rfl).mono ?_
  rintro e w1 ⟨A1, c1, rfl, ho1, h1, h1', hb1⟩
  have hr1 := hr.below hb1 hB
  go_wp2_with (at_builtin; refine Hid.out ?_)
  refine wpList_app8 rfl _ _ rfl rfl ho1 rfl hr1 ?_ hb1.size ?_
  · simp [nb]; omega
  intro v2 w2 ho2 hu2
  have hb2 := hu2.below_own hb1.size ho1
  have hr2 := hr1.below hb2 hB
  go_wp2_with fail
  refine (Sum_any _ _ _ _ _ _ hr2 (by unfold maxLen; omega)).mono ?_
  rintro e w3 ⟨rfl, rfl⟩
  go_wp2_with fail
  refine (number_any _ 4 _ (by omega) _ rfl).mono ?_
  rintro e w3 ⟨A3, c3, rfl, ho3, h3, h3', hb3⟩
  have ho2' : OB w3 w.heap.size v2 (nb p.length 4 ++ p) := ho2.kept (row := none) ⟨hb3.os, hb3.tape, hb3.output, hb3.size, fun k hk _ => hb3.block k hk⟩ (by cases v2.ownBlock <;> simp)
  have hsz := Nat.le_trans hb1.size hb2.size
  go_wp2_with (at_builtin; refine Hid.out ?_)
  refine wpList_app8 rfl _ _ rfl rfl ho2' rfl ho3.read.1 ?_ (Nat.le_trans hsz hb3.size) ?_
  · simp [nb]; omega
  intro v4 w4 ho4 hu4
  have hb4 := hu4.below_own (Nat.le_trans hsz hb3.size) ho2'
  have ho5 : OB w4 w.heap.size v4 (frm p) := ho4
  obtain ⟨A5, c5, rfl, g1, g2, g3⟩ := ho5.form
  rw [frm_length] at g1 ho5 ⊢
  go_wp2
  go_ret
  exact ⟨A5, c5, rfl, ho5, g1, g2, ((hb1.trans hb2).trans (hb3.mono hsz)).trans hb4⟩
theorem rFrame_ok (B : Nat) (A : Option Addr) (n c : Nat) (p : List UInt8) (w : World) (hr : RB w B A n p) (hB : B ≤ w.heap.size) (hn : n ≤ 65536) :
    Calls Try.prog 20 #[.slice A n c] w fun e w' => ∃ A' c', e = .returned (.tuple #[.slice A' (n + 8) c', .int .i64 0]) ∧ OB w' w.heap.size (.slice A' (n + 8) c') (frm p) ∧ n + 8 ≤ c' ∧ c' ≤ maxLen ∧ Below w.heap.size w w' := by
  go_enter Try.func20, Try.ntmps20
  go_wp2_with fail
  refine (rframe_any B A n c p w hr hB (by omega)).mono ?_
  rintro e w1 ⟨A1, c1, rfl, ho1, h1, h2, hb⟩
  go_wp2
  go_ret2
  exact ⟨A1, c1, rfl, ho1, h1, h2, hb⟩
theorem rFrame_big (A : Option Addr) (n c : Nat) (w : World) (hn : 65536 < n) (hm : n ≤ maxLen) :
    Calls Try.prog 20 #[.slice A n c] w fun e w' => e = .returned (.tuple #[.slice none 0 0, .int .i64 3]) ∧ w = w' := by
  unfold maxLen at hm
  go_enter Try.func20, Try.ntmps20
  go_wp2
  go_ret2
  exact ⟨rfl, rfl⟩
theorem EqualFunc_any (B B' : Nat) (A A' : Option Addr) (n c n' c' : Nat) (ps qs : List (List UInt8)) (w : World) (h : RBs w B A n ps) (h' : RBs w B' A' n' qs) (hm : n ≤ maxLen) (hm' : n' ≤ maxLen) :
    Calls Try.prog 22 #[.slice A n c, .slice A' n' c', .func (.func 19) #[] #[]] w fun e w' => e = .returned (.bool (ps == qs)) ∧ w = w' := by
  unfold maxLen at hm hm'
  obtain rfl := h.len
  obtain rfl := h'.len
  by_cases hl : ps.length = qs.length
  · have hne : ((ps.length : Int) != (qs.length : Int)) = false := by simp; omega
    have HL := Lib.hid hl
    clear hl
    go_enter Try.func22, Try.ntmps22
    go_wp2
    go_loop [17] (fun i => ∃ k : Nat, k ≤ ps.length ∧ i = .int .i64 k ∧ ps.take k = qs.take k) (fun i => ps.length - (intOf i).toNat)
    case atStart => exact ⟨0, Nat.zero_le _, rfl, rfl⟩
    case round =>
      obtain ⟨k, hk, rfl, htk⟩ := hrel
      have HT := Lib.hid htk
      clear htk
      by_cases hlt : k < ps.length
      · have hltq : k < qs.length := by rw [← HL.out]; exact hlt
        obtain ⟨ad, A1, n1, c1, rfl, hb1, hc1, _, _, hr1⟩ := h.at_ hlt
        obtain ⟨ad2, A2, n2, c2, rfl, hb2, hc2, _, _, hr2⟩ := h'.at_ hltq
        go_wp2_with fail
        refine (Equal_any _ _ _ _ _ _ _ _ _ _ _ hr1 hr2).mono ?_
        rintro e w1 ⟨rfl, rfl⟩
        by_cases he : ps[k] = qs[k]
        · have hbe : (ps[k] == qs[k]) = true := by rw [he]; exact beq_self_eq_true _
          rw [hbe]
          have HE := Lib.hid he
          clear he hbe
          go_wp2
          go_round
          case rel => exact ⟨k + 1, by omega, by go_num, by rw [List.take_succ_eq_append_getElem hlt, List.take_succ_eq_append_getElem hltq, HT.out, HE.out]⟩
          case measure => simp [intOf]; omega
        · have hbe : (ps[k] == qs[k]) = false := by simpa using he
          have hfin : (ps == qs) = false := by
            simp only [beq_eq_false_iff_ne, ne_eq]
            rintro rfl
            exact he rfl
          rw [hbe]
          clear hbe
          have HF := Lib.hid hfin
          clear hfin he
          go_wp2
          go_ret
          exact ⟨ret_bool HF.out.symm, rfl⟩
      · obtain rfl : k = ps.length := by omega
        have hfin : (ps == qs) = true := by
          have := HT.out
          rw [List.take_length, HL.out, List.take_length] at this
          rw [this]; exact beq_self_eq_true _
        have HF := Lib.hid hfin
        clear hfin
        go_wp2
        go_ret
        exact ⟨ret_bool HF.out.symm, rfl⟩
  · have hne : ((ps.length : Int) != (qs.length : Int)) = true := by simp; omega
    have hfin : (ps == qs) = false := by
      simp only [beq_eq_false_iff_ne, ne_eq]
      rintro rfl
      exact hl rfl
    have HF := Lib.hid hfin
    clear hfin
    go_enter Try.func22, Try.ntmps22
    go_wp2
    go_ret
    exact ⟨ret_bool HF.out.symm, rfl⟩
end Go.Proofs.Ytabdnepfcohncaa
