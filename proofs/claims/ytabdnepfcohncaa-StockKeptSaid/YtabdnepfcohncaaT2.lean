import Derived.Test.YtabdnepfcohncaaLib
import Derived.Test.YtabdnepfcohncaaNums
import Derived.Test.YtabdnepfcohncaaT1
namespace Go.Proofs.Ytabdnepfcohncaa
open Go.RowKit
def byteAt (n : Int) (i : Nat) : UInt8 := UInt8.ofNat (n / 2 ^ (8 * i) % 256).toNat
def nb (n : Int) (size : Nat) : List UInt8 := (List.range size).map fun j => byteAt n (size - 1 - j)
theorem nb_take_succ (n : Int) (size k : Nat) (h : k < size) : (nb n size).take (k + 1) = (nb n size).take k ++ [byteAt n (size - 1 - k)] := by
  rw [List.take_succ_eq_append_getElem (by simpa [nb] using h)]
  simp [nb]
theorem putNumber_any (base : Nat) (v : Value) (l : List UInt8) (n : Int) (size : Nat) (w : World) (h : OB w base v l) (hb : base ≤ w.heap.size) (hs : size ≤ 8) (sz : Int) (hsz : sz = size) (hl : l.length ≤ 140737488355000) :
    Calls Try.prog 96 #[v, .int .i64 n, .int .i64 sz] w fun e w' => ∃ v', e = .returned v' ∧ OB w' base v' (l ++ nb n size) ∧ Up w v w' v' := by
  subst hsz
  go_enter Try.func96, Try.ntmps96
  go_wp2
  go_loopw [0, 7] (fun s i wr => ∃ k : Nat, k ≤ size ∧ i = .int .i64 ((size : Int) - 1 - k) ∧ OB wr base s (l ++ (nb n size).take k) ∧ Up w v wr s) (fun _ i _ => (intOf i + 1).toNat)
  case atStart => exact ⟨0, Nat.zero_le _, int_eq (by omega), by simpa using h, Up.refl _ _⟩
  case round =>
    obtain ⟨k, hk, rfl, hown, hu⟩ := hrel
    by_cases hlt : k < size
    · obtain ⟨i, hi⟩ : ∃ i : Nat, (size : Int) - 1 - k = i := ⟨size - 1 - k, by omega⟩
      have hi7 : i ≤ 7 := by omega
      rw [hi]
      have HI := Lib.hid hi; clear hi
      have hbs : base ≤ wr.heap.size := Nat.le_trans hb hu.size
      go_wp2_with (at_builtin; refine Hid.out ?_)
      refine wpList_app8 rfl _ _ rfl rfl (hown.alloc _) rfl (RB_new _ _ _ [byteAt n i] 1 ?_ rfl) ?_ ?_ ?_
      · simp [B8, byteAt]; omega
      · simp [nb]; omega
      · simp; omega
      intro v1 w1 hown1 hu1
      have hu2 := (hu.alloc _).trans hu1
      clear hu1
      go_wp2
      go_roundw
      case rel => 
        refine ⟨k + 1, by omega, int_eq (by have := HI.out; omega), ?_, hu2⟩
        rw [nb_take_succ n size k hlt, ← List.append_assoc, show size - 1 - k = i by have := HI.out; omega]
        exact hown1
      case measure => simp [intOf]
    · go_wp2
      obtain rfl : k = size := by omega
      go_ret
      refine ⟨_, rfl, ?_, hu⟩
      rw [List.take_of_length_le (by simp [nb])] at hown
      exact hown

def frm (p : List UInt8) : List UInt8 := nb p.length 4 ++ p ++ nb (crc p) 4
theorem nb_length (n : Int) (k : Nat) : (nb n k).length = k := by simp [nb]
theorem frm_length (p : List UInt8) : (frm p).length = p.length + 8 := by simp [frm, nb_length]; omega
theorem frame_any (base B : Nat) (v : Value) (l : List UInt8) (A : Option Addr) (n c : Nat) (p : List UInt8) (w : World) (h : OB w base v l) (hr : RB w B A n p) (hB : B ≤ base) (hb : base ≤ w.heap.size)
    (hl : l.length + n ≤ 140737488354000) :
    Calls Try.prog 70 #[v, .slice A n c] w fun e w' => ∃ v', e = .returned v' ∧ OB w' base v' (l ++ frm p) ∧ Up w v w' v' := by
  obtain rfl := hr.len
  go_enter Try.func70, Try.ntmps70
  go_wp2_with fail
  refine (putNumber_any base _ l _ 4 _ h hb (by omega) _ rfl (by omega)).mono ?_
  rintro e w1 ⟨v1, rfl, hown1, hu1⟩
  have hr1 : RB w1 B A p.length p := hr.below (hu1.below_own hb h) hB
  have hb1 := Nat.le_trans hb hu1.size
  go_wp2_with (at_builtin; refine Hid.out ?_)
  refine wpList_app8 rfl _ _ rfl rfl hown1 rfl hr1 ?_ hb1 ?_
  · simp [nb]; omega
  intro v2 w2 hown2 hu2
  have hr2 : RB w2 B A p.length p := hr1.below (hu2.below_own hb1 hown1) hB
  go_wp2_with fail
  refine (checksum_any A p.length c p _ B hr2 (by unfold maxLen; omega)).mono ?_
  rintro e w3 ⟨rfl, rfl⟩
  go_wp2_with fail
  refine (putNumber_any base _ _ _ 4 _ hown2 (Nat.le_trans hb1 hu2.size) (by omega) _ rfl ?_).mono ?_
  · simp [nb]; omega
  rintro e w4 ⟨v4, rfl, hown4, hu4⟩
  go_wp2_with fail
  go_ret
  exact ⟨_, rfl, by simpa [frm] using hown4, (hu1.trans hu2).trans hu4⟩
theorem Frame_ok (B : Nat) (A : Option Addr) (n c : Nat) (p : List UInt8) (w : World) (hr : RB w B A n p) (hB : B ≤ w.heap.size) (hn : n ≤ 65536) :
    Calls Try.prog 17 #[.slice A n c] w fun e w' => ∃ v', e = .returned (.tuple #[v', .int .i64 0]) ∧ OB w' w.heap.size v' (frm p) ∧ Below w.heap.size w w' := by
  go_enter Try.func17, Try.ntmps17
  go_wp2_with fail
  refine (frame_any w.heap.size w.heap.size _ [] A n c p w (OB.nil _ _) (hr.more hB) (Nat.le_refl _) (Nat.le_refl _) (by simp; omega)).mono ?_
  rintro e w1 ⟨v1, rfl, hown1, hu1⟩
  go_wp2
  go_ret2
  exact ⟨_, rfl, hown1, hu1.below (Nat.le_refl _) (by simp [Value.ownBlock])⟩
theorem Frame_big (A : Option Addr) (n c : Nat) (w : World) (hn : 65536 < n) (hm : n ≤ maxLen) :
    Calls Try.prog 17 #[.slice A n c] w fun e w' => e = .returned (.tuple #[.slice none 0 0, .int .i64 3]) ∧ w = w' := by
  unfold maxLen at hm
  go_enter Try.func17, Try.ntmps17
  go_wp2
  go_ret2
  exact ⟨rfl, rfl⟩
end Go.Proofs.Ytabdnepfcohncaa
