import Derived.Test.YtabdnepfcohncaaT2
import Derived.WalkSpells
import Derived.WalkLawsBesides
import Derived.Lib.BufferRead
namespace Go.Proofs.Ytabdnepfcohncaa
open Go.RowKit
theorem conv_bytes {B : Nat} {A : Option Addr} {n : Nat} (c : Nat) {p : List UInt8} {w : World} (hr : RB w B A n p) :
    (convert 22 9 (.slice A n c)).run Try.prog w = .ok (.string ⟨p.toArray⟩) w := by
  obtain rfl := hr.len
  rcases A with _ | ad
  · have h0 : p.length = 0 := by
      rcases Nat.eq_zero_or_pos p.length with h | h
      · exact h
      · obtain ⟨ad, e, _⟩ := hr.2 h; cases e
    have : p = [] := List.eq_nil_of_length_eq_zero h0
    subst this
    exact Lib.run_convert_nil_bytes w 22 9 5 c Try.underlying22 Try.underlying5 Try.underlying9
  · refine run_convert_bytes_back w 22 9 5 ad c p Try.underlying22 Try.underlying5 Try.underlying9 fun j hj => ?_
    obtain ⟨ad', e, _, hc⟩ := hr.at_ hj
    injection e with e
    subst e
    exact hc
theorem Equal_any (A A' : Option Addr) (n c n' c' : Nat) (p q : List UInt8) (B B' : Nat) (w : World) (hr : RB w B A n p) (hr' : RB w B' A' n' q) :
    Calls Try.prog 19 #[.slice A n c, .slice A' n' c'] w fun e w' => e = .returned (.bool (p == q)) ∧ w = w' := by
  have h1 := conv_bytes c hr
  have h2 := conv_bytes c' hr'
  go_enter Try.func19, Try.ntmps19
  go_wp2
  go_ret
  exact ⟨ret_bool rfl, rfl⟩
theorem Clone_any (B : Nat) (A : Option Addr) (n c : Nat) (p : List UInt8) (w : World) (hr : RB w B A n p) (hB : B ≤ w.heap.size) (hn : n ≤ 140737488354000) :
    Calls Try.prog 73 #[.slice A n c] w fun e w' => ∃ v', e = .returned v' ∧ OB w' w.heap.size v' p ∧ Below w.heap.size w w' := by
  obtain rfl := hr.len
  have h1 : ∀ w : World, (binOp .eql 22 (.slice A p.length c) (.slice none 0 0)).run Try.prog w = .ok (.bool A.isNone) w := fun w => Lib.run_eql_slice_nil w 22 5 A p.length c 0 0 Try.underlying22
  rcases A with _ | ad
  · go_enter Try.func73, Try.ntmps73
    go_wp2
    go_ret
    have h0 : p.length = 0 := by
      rcases Nat.eq_zero_or_pos p.length with h | h
      · exact h
      · obtain ⟨ad, e, _⟩ := hr.2 h; cases e
    have : p = [] := List.eq_nil_of_length_eq_zero h0
    subst this
    exact ⟨_, rfl, OB.nil _ _, Below.refl _ _⟩
  · go_enter Try.func73, Try.ntmps73
    go_wp2_with (at_builtin; refine Hid.out ?_)
    have ho : OB (w.alloc (.cells #[] 5)) w.heap.size (.slice (some ⟨w.heap.size, 0, none⟩) 0 0) [] :=
      ⟨by simp, .inr ⟨w.heap.size, 0, #[], rfl, Nat.le_refl _, heap_alloc_new w _, Nat.le_refl _, by unfold maxLen; omega, by simp, by simp⟩⟩
    refine wpList_app8 rfl _ _ rfl rfl ho rfl (hr.alloc hB _) ?_ ?_ ?_
    · simp; omega
    · simp
    intro v1 w1 hown1 hu1
    go_wp2
    go_ret
    exact ⟨_, rfl, hown1, ((Below.refl _ _).alloc (Nat.le_refl _) _).trans (hu1.below_own (by simp) ho)⟩
theorem Clone_sl (B : Nat) (A : Option Addr) (n c : Nat) (p : List UInt8) (w : World) (hr : RB w B A n p) (hB : B ≤ w.heap.size) (hn : n ≤ 140737488354000) :
    Calls Try.prog 73 #[.slice A n c] w fun e w' => ∃ A' c', e = .returned (.slice A' n c') ∧ OB w' w.heap.size (.slice A' n c') p ∧ Below w.heap.size w w' := by
  refine (Clone_any B A n c p w hr hB hn).mono ?_
  rintro e w1 ⟨v1, rfl, hv, hb⟩
  obtain ⟨A1, c1, rfl, _⟩ := hv.form
  obtain rfl := hr.len
  exact ⟨A1, c1, rfl, hv, hb⟩
end Go.Proofs.Ytabdnepfcohncaa
