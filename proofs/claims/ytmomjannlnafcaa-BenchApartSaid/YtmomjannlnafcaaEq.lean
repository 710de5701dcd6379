/- slices.Equal over ints of one reading. -/
import Derived.Test.YtmomjannlnafcaaT1
import Derived.BigQuiet
namespace Go.Proofs.Ytmomjannlnafcaa
open Go.RowKit
theorem Equal_same (B : Nat) (A A' : Option Addr) (n c c' : Nat) (l : List Int) (w : World) (hr : RI w B A n l) (hr' : RI w B A' n l) (hn : n ≤ maxLen) :
    Calls Try.prog 23 #[.slice A n c, .slice A' n c'] w fun e w' => e = .returned (.bool true) ∧ Below w.heap.size w w' := by
  have HL := Lib.hid hr.len
  have hn := hn
  unfold maxLen at hn
  go_enter Try.func23, Try.ntmps23
  go_wp2
  go_loopw [13] (fun u wr => ∃ k : Nat, k ≤ n ∧ u = .int .i64 k ∧ Below w.heap.size w wr ∧ RI wr B A n l ∧ RI wr B A' n l) (fun u _ => n - (intOf u).toNat)
  case atStart => exact ⟨0, Nat.zero_le _, rfl, Below.refl _ _, hr, hr'⟩
  case round =>
    obtain ⟨k, hk, rfl, hb, hr1, hr2⟩ := hrel
    by_cases hlt : k < n
    · obtain ⟨ad, rfl, _, hc⟩ := hr1.at_ (k := k) (by rw [HL.out]; exact hlt)
      obtain ⟨ad', rfl, _, hc'⟩ := hr2.at_ (k := k) (by rw [HL.out]; exact hlt)
      generalize l[k]'(by rw [HL.out]; exact hlt) = x at *
      have he : (x != x) = false := by simp
      go_wp2
      go_quiet (fail)
      have hb := Below.trans hb (Below.drawN _ wr nq)
      have hr1 := Reads.drewN hr1 nq
      have hr2 := Reads.drewN hr2 nq
      go_wp2
      go_roundw
      case rel => exact ⟨k + 1, by omega, by go_num, hb, hr1, hr2⟩
      case measure => simp [intOf]; omega
    · go_wp2
      go_ret
      exact ⟨rfl, hb⟩
theorem info3 : (Try.prog.info? 3).map (fun i => (i.zero, i.size, i.bytes)) = some (some (.int .i64 0), 1, 8) := by kernel_rfl
theorem T23 : SlT 23 3 1 8 (.int .i64 0) := .mk' Try.underlying23 info3 rfl (by omega)
end Go.Proofs.Ytmomjannlnafcaa
