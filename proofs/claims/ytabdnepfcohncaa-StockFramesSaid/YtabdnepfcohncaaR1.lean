import Derived.Test.YtabdnepfcohncaaT5
namespace Go.Proofs.Ytabdnepfcohncaa
open Go.RowKit
set_option linter.unusedVariables false
theorem ofInt_u64 (a : Nat) (ha : a < 18446744073709551616) : (BitVec.ofInt 64 (a : Int)).toNat = a := by
  rw [BitVec.ofInt_natCast, BitVec.toNat_ofNat]; exact Nat.mod_eq_of_lt (by omega)
/-- What the reference's 'value' has in n. -/
def gv (l : List UInt8) : Nat := gn l % 18446744073709551616
theorem gv_or (x : Nat) (b : UInt8) : bits .or .u64 (IntKind.u64.wrap ((x : Int) * 256)) (IntKind.u64.wrap (b.toNat : Int)) = (((x * 256 + b.toNat) % 18446744073709551616 : Nat) : Int) := by
  have hb := b.toNat_lt
  rw [IntKind.wrap_u64, IntKind.wrap_u64]
  have e1 : (x : Int) * 256 % 18446744073709551616 = (((x % 72057594037927936) * 256 : Nat) : Int) := by omega
  have e2 : (b.toNat : Int) % 18446744073709551616 = ((b.toNat : Nat) : Int) := by omega
  rw [e1, e2]
  show IntKind.u64.wrap ((BitVec.ofInt 64 _ ||| BitVec.ofInt 64 _).toNat : Int) = _
  rw [BitVec.toNat_or, ofInt_u64 _ (by omega), ofInt_u64 _ (by omega), or_low _ _ (by omega), IntKind.wrap_u64]
  omega
theorem gv_snoc (l : List UInt8) (k : Nat) (h : k < l.length) {x : Nat} (hx : x = gn (l.take k) % 18446744073709551616) : gv (l.take (k + 1)) = (x * 256 + l[k].toNat) % 18446744073709551616 := by
  rw [gv, gn_take_succ l k h, hx]
  omega
theorem value_any (A : Option Addr) (n c : Nat) (l : List UInt8) (w : World) (B : Nat) (h : RB w B A n l) (hm : n ≤ maxLen) :
    Calls Try.prog 75 #[.slice A n c] w fun e w' => e = .returned (.int .i64 (min (gv l) 4611686018427387905 : Nat)) ∧ w = w' := by
  unfold maxLen at hm
  obtain rfl := h.len
  go_enter Try.func75, Try.ntmps75
  go_wp2
  go_loop [3, 8] (fun s i => ∃ k : Nat, k ≤ l.length ∧ i = .int .i64 k ∧ s = .int .u64 (gv (l.take k))) (fun _ i => l.length - (intOf i).toNat)
  case atStart => exact ⟨0, Nat.zero_le _, rfl, rfl⟩
  case round =>
    obtain ⟨k, hk, rfl, rfl⟩ := hrel
    have hg : gv (l.take k) < 18446744073709551616 := Nat.mod_lt _ (by omega)
    have hgv : gv (l.take k) = gn (l.take k) % 18446744073709551616 := rfl
    generalize gv (l.take k) = x at *
    have HG := Lib.hid hgv; clear hgv
    by_cases hlt : k < l.length
    · obtain ⟨ad, rfl, _, hc⟩ := h.at_ (k := k) (by omega)
      go_wp2
      go_round
      case rel => exact ⟨k + 1, by omega, by go_num, int_eq (by rw [gv_or, gv_snoc l k hlt HG.out])⟩
      case measure => simp [intOf]; omega
    · obtain rfl : k = l.length := by omega
      rw [List.take_length] at HG
      have hf : min (gv l) 4611686018427387905 = min x 4611686018427387905 := by rw [gv, ← HG.out]
      have HF := Lib.hid hf; clear hf
      go_wp2
      all_goals
        go_ret
        exact ⟨ret_int (by rw [HF.out]; omega), rfl⟩
theorem number_any (n : Int) (size : Nat) (w : World) (hs : size ≤ 8) (sz : Int) (hsz : sz = size) :
    Calls Try.prog 104 #[.int .i64 n, .int .i64 sz] w fun e w' => ∃ A c, e = .returned (.slice A size c) ∧ OB w' w.heap.size (.slice A size c) (nb n size) ∧ size ≤ c ∧ c ≤ maxLen ∧ Below w.heap.size w w' := by
  subst hsz
  go_enter Try.func104, Try.ntmps104
  go_wp2
  go_loopw [5, 6] (fun s i wr => ∃ k : Nat, k ≤ size ∧ i = .int .i64 ((size : Int) - 1 - k) ∧ OB wr w.heap.size s ((nb n size).take k) ∧ Below w.heap.size w wr) (fun _ i _ => (intOf i + 1).toNat)
  case atStart => exact ⟨0, Nat.zero_le _, int_eq (by omega), by simpa using OB.nil _ _, Below.refl _ _⟩
  case round =>
    obtain ⟨k, hk, rfl, hown, hu⟩ := hrel
    by_cases hlt : k < size
    · obtain ⟨i, hi⟩ : ∃ i : Nat, (size : Int) - 1 - k = i := ⟨size - 1 - k, by omega⟩
      have hi7 : i ≤ 7 := by omega
      rw [hi]
      have HI := Lib.hid hi; clear hi
      go_wp2_with (at_builtin; refine Hid.out ?_)
      refine wpList_app8 rfl _ _ rfl rfl (hown.alloc _) rfl (RB_new _ _ _ [byteAt n i] 1 ?_ rfl) ?_ ?_ ?_
      · simp [B8, byteAt]; omega
      · simp [nb]; omega
      · have := hu.size; simp; omega
      intro v1 w1 hown1 hu1
      have hu2 := (hu.alloc hu.size _).trans (hu1.below_own (by have := hu.size; simp; omega) (hown.alloc _))
      clear hu1
      go_wp2
      go_roundw
      case rel => 
        refine ⟨k + 1, by omega, int_eq (by have := HI.out; omega), ?_, hu2⟩
        rw [nb_take_succ n size k hlt, show size - 1 - k = i by have := HI.out; omega]
        exact hown1
      case measure => simp [intOf]
    · go_wp2
      obtain rfl : k = size := by omega
      go_ret
      rw [List.take_of_length_le (by simp [nb])] at hown
      obtain ⟨A, c, rfl, h1, h2, _⟩ := hown.form
      rw [nb_length] at h1 hown
      exact ⟨A, c, by rw [nb_length]; rfl, hown, h1, h2, hu⟩
theorem u32_xorc (x : Nat) (hx : x < 4294967296) : bits .xor .u32 (x : Int) 4294967295 = ((4294967295 ^^^ x : Nat) : Int) := by
  have := u32_xor x 4294967295 hx (by omega)
  rw [Nat.xor_comm] at this
  exact this
theorem Sum_any (A : Option Addr) (n c : Nat) (l : List UInt8) (w : World) (B : Nat) (h : RB w B A n l) (hm : n ≤ maxLen) :
    Calls Try.prog 76 #[.slice A n c] w fun e w' => e = .returned (.int .i64 (crc l)) ∧ w = w' := by
  unfold maxLen at hm
  obtain rfl := h.len
  have hs : IntKind.u32.signed = false := rfl
  go_enter Try.func76, Try.ntmps76
  go_wp2
  go_loop [3, 9] (fun s i => ∃ k : Nat, k ≤ l.length ∧ i = .int .i64 k ∧ s = .int .u32 (crcFold (l.take k))) (fun _ i => l.length - (intOf i).toNat)
  case atStart => exact ⟨0, Nat.zero_le _, rfl, rfl⟩
  case round =>
    obtain ⟨k, hk, rfl, rfl⟩ := hrel
    have hx := crcFold_lt (l.take k)
    generalize hX : crcFold (l.take k) = x at *
    have HX := Lib.hid hX; clear hX
    by_cases hlt : k < l.length
    · obtain ⟨ad, rfl, _, hc⟩ := h.at_ (k := k) (by omega)
      have hb := l[k].toNat_lt
      have hxx := u32_xor x l[k].toNat hx (by omega)
      have hy : x ^^^ l[k].toNat < 4294967296 := Nat.xor_lt_two_pow (n := 32) hx (by omega)
      have HX2 := Lib.hid hxx; clear hxx
      go_wp2
      go_loop [3, 17] (fun s j => ∃ i : Nat, i ≤ 8 ∧ j = .int .i64 i ∧ s = .int .u32 (crcBits i (x ^^^ l[k].toNat))) (fun _ j => 8 - (intOf j).toNat)
      case atStart => exact ⟨0, by omega, rfl, by rw [HX2.out]; rfl⟩
      case round =>
        obtain ⟨i, hi, rfl, rfl⟩ := hrel
        have hz := crcBits_lt i hy
        have hS : crcBits (i + 1) (x ^^^ l[k].toNat) = crcBit (crcBits i (x ^^^ l[k].toNat)) := rfl
        have HS := Lib.hid hS; clear hS
        generalize hZ : crcBits i (x ^^^ l[k].toNat) = z at *
        have HZ := Lib.hid hZ; clear hZ
        by_cases hi8 : i < 8
        · have ha := u32_and1 z hz
          by_cases hodd : z % 2 = 1
          · have hq : ((z % 2 : Nat) : Int) = 1 := by omega
            have hxz := u32_xor (z / 2) 3988292384 (by omega) (by omega)
            have HXZ := Lib.hid hxz; clear hxz
            go_wp2
            go_round
            case rel => exact ⟨i + 1, by omega, by go_num, int_eq (by rw [HS.out, crcBit, if_pos hodd]; exact HXZ.out)⟩
            case measure => simp [intOf]; omega
          · have hq : ((z % 2 : Nat) : Int) = 0 := by omega
            have hq1 : (((z % 2 : Nat) : Int) == 1) = false := by rw [hq]; rfl
            go_wp2
            go_round
            case rel => exact ⟨i + 1, by omega, by go_num, int_eq (by rw [HS.out, crcBit, if_neg hodd]; omega)⟩
            case measure => simp [intOf]; omega
        · go_wp2
          obtain rfl : i = 8 := by omega
          go_round
          case rel => exact ⟨k + 1, by omega, by go_num, int_eq (by rw [crcFold_take_succ l k hlt, HX.out, crcByte, HZ.out])⟩
          case measure => simp [intOf]; omega
    · go_wp2
      go_ret
      obtain rfl : k = l.length := by omega
      rw [List.take_length] at HX
      refine ⟨ret_int ?_, rfl⟩
      have hlt := Nat.xor_lt_two_pow (n := 32) (show 4294967295 < 2 ^ 32 by omega) hx
      rw [u32_xorc x hx, crc, HX.out]
      unfold wrap64
      omega
end Go.Proofs.Ytabdnepfcohncaa
