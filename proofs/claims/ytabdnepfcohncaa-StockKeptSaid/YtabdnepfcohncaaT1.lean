import Derived.Test.YtabdnepfcohncaaLib
import Derived.Test.YtabdnepfcohncaaNums
import Derived.Test.YtabdnepfcohncaaProg
namespace Go.Proofs.Ytabdnepfcohncaa
open Go.RowKit
theorem getNumber_any (A : Option Addr) (n c : Nat) (l : List UInt8) (w : World) (B : Nat) (h : RB w B A n l) (hm : n ≤ maxLen) :
    Calls Try.prog 71 #[.slice A n c] w fun e w' => e = .returned (.int .i64 (wrap64 (gn l))) ∧ w = w' := by
  unfold maxLen at hm
  obtain rfl := h.len
  go_enter Try.func71, Try.ntmps71
  go_wp2
  go_loop [3, 8] (fun s i => ∃ k : Nat, k ≤ l.length ∧ i = .int .i64 k ∧ s = .int .i64 (wrap64 (gn (l.take k)))) (fun _ i => l.length - (intOf i).toNat)
  case atStart => exact ⟨0, Nat.zero_le _, rfl, by simp [gn, wrap64]⟩
  case round =>
    obtain ⟨k, hk, rfl, rfl⟩ := hrel
    by_cases hlt : k < l.length
    · obtain ⟨ad, rfl, _, hc⟩ := h.at_ (k := k) (by omega)
      go_wp2
      go_round
      case rel => exact ⟨k + 1, by omega, by go_num, by rw [shl_or, gn_take_succ l k hlt]⟩
      case measure => simp [intOf]; omega
    · go_wp2
      go_ret
      obtain rfl : k = l.length := by omega
      exact ⟨ret_int (by rw [List.take_length]), rfl⟩
theorem getNumber_small (A : Option Addr) (n c : Nat) (l : List UInt8) (w : World) (B : Nat) (h : RB w B A n l) (hm : n ≤ 7) :
    Calls Try.prog 71 #[.slice A n c] w fun e w' => e = .returned (.int .i64 (gn l)) ∧ w = w' := by
  refine (getNumber_any A n c l w B h (by unfold maxLen; omega)).mono ?_
  rintro e w' ⟨rfl, rfl⟩
  refine ⟨ret_int ?_, rfl⟩
  have h1 := gn_lt l
  have h2 : 256 ^ l.length ≤ 256 ^ 7 := Nat.pow_le_pow_right (by omega) (by rw [h.len]; exact hm)
  have h3 : (256 : Nat) ^ 7 = 72057594037927936 := by decide
  unfold wrap64
  omega
theorem checksum_any (A : Option Addr) (n c : Nat) (l : List UInt8) (w : World) (B : Nat) (h : RB w B A n l) (hm : n ≤ maxLen) :
    Calls Try.prog 72 #[.slice A n c] w fun e w' => e = .returned (.int .i64 (crc l)) ∧ w = w' := by
  unfold maxLen at hm
  obtain rfl := h.len
  have hs : IntKind.u32.signed = false := rfl
  go_enter Try.func72, Try.ntmps72
  go_wp2
  go_loop [3, 8] (fun s i => ∃ k : Nat, k ≤ l.length ∧ i = .int .i64 k ∧ s = .int .u32 (crcFold (l.take k))) (fun _ i => l.length - (intOf i).toNat)
  case atStart => exact ⟨0, Nat.zero_le _, rfl, rfl⟩
  case round =>
    obtain ⟨k, hk, rfl, rfl⟩ := hrel
    have hx := crcFold_lt (l.take k)
    generalize hX : crcFold (l.take k) = x at *
    have HX := Lib.hid hX; clear hX
    by_cases hlt : k < l.length
    · obtain ⟨ad, rfl, _, hc⟩ := h.at_ (k := k) (by omega)
      have hb := l[k].toNat_lt
      have hxx := u32_xor x l[k].toNat hx (by omega)
      have hy : x ^^^ l[k].toNat < 4294967296 := Nat.xor_lt_two_pow (n := 32) hx (by omega)
      have HX2 := Lib.hid hxx; clear hxx
      go_wp2
      go_loop [3, 16] (fun s j => ∃ i : Nat, i ≤ 8 ∧ j = .int .i64 i ∧ s = .int .u32 (crcBits i (x ^^^ l[k].toNat))) (fun _ j => 8 - (intOf j).toNat)
      case atStart => exact ⟨0, by omega, rfl, by rw [HX2.out]; rfl⟩
      case round =>
        obtain ⟨i, hi, rfl, rfl⟩ := hrel
        have hz := crcBits_lt i hy
        have hS : crcBits (i + 1) (x ^^^ l[k].toNat) = crcBit (crcBits i (x ^^^ l[k].toNat)) := rfl
        have HS := Lib.hid hS; clear hS
        generalize hZ : crcBits i (x ^^^ l[k].toNat) = z at *
        have HZ := Lib.hid hZ; clear hZ
        by_cases hi8 : i < 8
        · have ha := u32_and1 z hz
          by_cases hodd : z % 2 = 1
          · have hq : ((z % 2 : Nat) : Int) = 1 := by omega
            have hxz := u32_xor (z / 2) 3988292384 (by omega) (by omega)
            have HXZ := Lib.hid hxz; clear hxz
            go_wp2
            go_round
            case rel => exact ⟨i + 1, by omega, by go_num, int_eq (by rw [HS.out, crcBit, if_pos hodd]; exact HXZ.out)⟩
            case measure => simp [intOf]; omega
          · have hq : ((z % 2 : Nat) : Int) = 0 := by omega
            have hq1 : (((z % 2 : Nat) : Int) == 1) = false := by rw [hq]; rfl
            go_wp2
            go_round
            case rel => exact ⟨i + 1, by omega, by go_num, int_eq (by rw [HS.out, crcBit, if_neg hodd]; omega)⟩
            case measure => simp [intOf]; omega
        · go_wp2
          obtain rfl : i = 8 := by omega
          go_round
          case rel => exact ⟨k + 1, by omega, by go_num, int_eq (by rw [crcFold_take_succ l k hlt, HX.out, crcByte, HZ.out])⟩
          case measure => simp [intOf]; omega
    · go_wp2
      go_ret
      obtain rfl : k = l.length := by omega
      rw [List.take_length] at HX
      refine ⟨ret_int ?_, rfl⟩
      have e := u32_xor 4294967295 x (by omega) hx
      have e2 : bits BinOp.xor IntKind.u32 IntKind.u32.max ↑x = ((4294967295 ^^^ x : Nat) : Int) := e
      have hlt := Nat.xor_lt_two_pow (n := 32) (show 4294967295 < 2 ^ 32 by omega) hx
      rw [e2, crc, HX.out]
      unfold wrap64
      omega
end Go.Proofs.Ytabdnepfcohncaa
