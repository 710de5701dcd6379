import Derived.Test.YtmomjannlnafcaaT8a
import Derived.Test.YtmomjannlnafcaaT8b
namespace Go.Proofs.Ytmomjannlnafcaa
open Go.RowKit
theorem apart_law (B : Nat) (A : Option Addr) (n c : Nat) (l : List Int) (m : Int) (w : World) (hr : RI w B A n l) (hB : B ≤ w.heap.size) (hn : n ≤ maxLen) :
    Calls Try.prog 5 #[.slice A n c, .int .i64 m] w fun e w' => e = .returned (.bool true) ∧ Below w.heap.size w w' := by
  cases h : likeB l m with
  | false => exact apart_no B A n c l m w hr hn h
  | true =>
    by_cases hc : l.foldl max 0 < (total l + m - 1) / m
    · exact apart_one B A n c l m w hr hB hn h hc
    · exact apart_two B A n c l m w hr hB hn h hc
end Go.Proofs.Ytmomjannlnafcaa
