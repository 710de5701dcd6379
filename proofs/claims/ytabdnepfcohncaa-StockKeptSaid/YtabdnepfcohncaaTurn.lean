/- Plain laws of the frame: a frame is found again; with a byte behind the length changed it is not. -/
import Derived.Test.YtabdnepfcohncaaT2
namespace Go.Proofs.Ytabdnepfcohncaa
theorem xor_right_cancel {a b c : Nat} (h : a ^^^ c = b ^^^ c) : a = b := by
  have := congrArg (· ^^^ c) h
  simpa [Nat.xor_assoc] using this
theorem xor_left_cancel {a b c : Nat} (h : c ^^^ a = c ^^^ b) : a = b := by
  rw [Nat.xor_comm c a, Nat.xor_comm c b] at h
  exact xor_right_cancel h
theorem foldl_gn (l : List UInt8) : ∀ x : Nat, l.foldl (fun n b => n * 256 + b.toNat) x = x * 256 ^ l.length + gn l := by
  unfold gn
  induction l with
  | nil => intro x; simp
  | cons b l ih =>
    intro x
    simp only [List.foldl_cons, List.length_cons]
    rw [ih (x * 256 + b.toNat), ih (0 * 256 + b.toNat), Nat.pow_succ, Nat.add_mul, Nat.zero_mul, Nat.zero_add, Nat.mul_assoc, Nat.mul_comm 256, Nat.add_assoc]
theorem gn_cons (b : UInt8) (l : List UInt8) : gn (b :: l) = b.toNat * 256 ^ l.length + gn l := by
  show List.foldl _ _ _ = _
  rw [List.foldl_cons, foldl_gn]
  simp
theorem gn_inj : ∀ (l m : List UInt8), l.length = m.length → gn l = gn m → l = m
  | [], [], _, _ => rfl
  | a :: l, b :: m, hl, h => by
    have hl' : l.length = m.length := by simpa using hl
    rw [gn_cons, gn_cons, hl'] at h
    have h1 := gn_lt l
    have h2 := gn_lt m
    rw [hl'] at h1
    have e : a.toNat = b.toNat := by
      have e1 : (a.toNat * 256 ^ m.length + gn l) / 256 ^ m.length = a.toNat := by
        rw [Nat.add_comm, Nat.add_mul_div_right _ _ (Nat.pow_pos (by omega)), Nat.div_eq_of_lt h1, Nat.zero_add]
      have e2 : (b.toNat * 256 ^ m.length + gn m) / 256 ^ m.length = b.toNat := by
        rw [Nat.add_comm, Nat.add_mul_div_right _ _ (Nat.pow_pos (by omega)), Nat.div_eq_of_lt h2, Nat.zero_add]
      rw [← e1, ← e2, h]
    rw [e] at h
    rw [UInt8.toNat_inj.1 e, gn_inj l m hl' (by omega)]
  | [], _ :: _, hl, _ => by simp at hl
  | _ :: _, [], hl, _ => by simp at hl
theorem byteAt_nat (x i : Nat) : (byteAt (x : Int) i).toNat = x / 2 ^ (8 * i) % 256 := by
  unfold byteAt
  have h : ((x : Int) / 2 ^ (8 * i) % 256).toNat = x / 2 ^ (8 * i) % 256 := by
    have : ((x : Int) / 2 ^ (8 * i) % 256) = ((x / 2 ^ (8 * i) % 256 : Nat) : Int) := by simp
    rw [this, Int.toNat_natCast]
  rw [h, UInt8.toNat_ofNat']
  exact Nat.mod_eq_of_lt (Nat.mod_lt _ (by omega))
theorem gn_nb4 (x : Nat) (h : x < 4294967296) : gn (nb x 4) = x := by
  have e : nb x 4 = [byteAt x 3, byteAt x 2, byteAt x 1, byteAt x 0] := rfl
  rw [e]
  simp only [gn, List.foldl_cons, List.foldl_nil, byteAt_nat]
  omega
theorem crcBit_top (x : Nat) (h : x < 4294967296) : (crcBit x).testBit 31 = decide (x % 2 = 1) := by
  have h2 : (x / 2).testBit 31 = false := Nat.testBit_lt_two_pow (by omega)
  unfold crcBit
  split
  · rename_i ho
    have hp : (3988292384 : Nat).testBit 31 = true := by decide
    rw [Nat.testBit_xor, h2, hp, decide_eq_true ho]; rfl
  · rename_i ho
    rw [h2, decide_eq_false ho]
theorem crcBit_inj {x y : Nat} (hx : x < 4294967296) (hy : y < 4294967296) (h : crcBit x = crcBit y) : x = y := by
  have h1 := crcBit_top x hx
  have h2 := crcBit_top y hy
  rw [h, h2] at h1
  have h3 : (x % 2 = 1) ↔ (y % 2 = 1) := by
    rw [← decide_eq_decide]; exact h1.symm
  unfold crcBit at h
  by_cases ho : x % 2 = 1
  · rw [if_pos ho, if_pos (h3.1 ho)] at h
    have := xor_right_cancel h
    omega
  · rw [if_neg ho, if_neg (fun e => ho (h3.2 e))] at h
    omega
theorem crcBits_inj (n : Nat) {x y : Nat} (hx : x < 4294967296) (hy : y < 4294967296) (h : crcBits n x = crcBits n y) : x = y := by
  induction n with
  | zero => exact h
  | succ n ih => exact ih (crcBit_inj (crcBits_lt n hx) (crcBits_lt n hy) h)
theorem crcByte_inj {x y : Nat} (b : UInt8) (hx : x < 4294967296) (hy : y < 4294967296) (h : crcByte x b = crcByte y b) : x = y := by
  have := b.toNat_lt
  exact xor_right_cancel (crcBits_inj 8 (Nat.xor_lt_two_pow (n := 32) hx (by omega)) (Nat.xor_lt_two_pow (n := 32) hy (by omega)) h)
theorem crcByte_byte {x : Nat} {b d : UInt8} (hx : x < 4294967296) (h : crcByte x b = crcByte x d) : b = d := by
  have := b.toNat_lt
  have := d.toNat_lt
  exact UInt8.toNat_inj.1 (xor_left_cancel (crcBits_inj 8 (Nat.xor_lt_two_pow (n := 32) hx (by omega)) (Nat.xor_lt_two_pow (n := 32) hx (by omega)) h))
theorem foldl_inj (l : List UInt8) : ∀ {x y : Nat}, x < 4294967296 → y < 4294967296 → l.foldl crcByte x = l.foldl crcByte y → x = y := by
  induction l with
  | nil => exact fun _ _ h => h
  | cons b l ih => exact fun hx hy h => crcByte_inj b hx hy (ih (crcByte_lt b hx) (crcByte_lt b hy) h)
theorem crc_set (p : List UInt8) (i : Nat) (b : UInt8) (hi : i < p.length) (hb : b ≠ p[i]) : crc (p.set i b) ≠ crc p := by
  intro h
  unfold crc at h
  have h := xor_left_cancel h
  unfold crcFold at h
  have e1 : p.set i b = p.take i ++ b :: p.drop (i + 1) := List.set_eq_take_append_cons_drop.trans (by rw [if_pos hi])
  have e2 : p = p.take i ++ p[i] :: p.drop (i + 1) := by rw [← List.drop_eq_getElem_cons hi, List.take_append_drop]
  have e3 : p.foldl crcByte 4294967295 = (p.take i ++ p[i] :: p.drop (i + 1)).foldl crcByte 4294967295 := by rw [← e2]
  rw [e3, e1] at h
  simp only [List.foldl_append, List.foldl_cons] at h
  have hx : (p.take i).foldl crcByte 4294967295 < 4294967296 := foldl_lt _ _ (by omega)
  exact hb (crcByte_byte hx (foldl_inj _ (crcByte_lt _ hx) (crcByte_lt _ hx) h))
theorem frm_take4 (p : List UInt8) : (frm p).take 4 = nb p.length 4 := by
  unfold frm
  rw [List.append_assoc, List.take_left' (nb_length _ _)]
theorem frm_mid (p : List UInt8) : ((frm p).drop 4).take p.length = p := by
  unfold frm
  rw [List.append_assoc, List.drop_left' (nb_length _ _), List.take_left' rfl]
theorem frm_end (p : List UInt8) : (frm p).drop (4 + p.length) = nb (crc p) 4 := by
  unfold frm
  rw [List.drop_left' (by simp [nb_length])]
theorem frames_frm (p : List UInt8) (hp : p.length ≤ 65536) : frames (frm p) = ([p], []) := by
  have hg : gn ((frm p).take 4) = p.length := by rw [frm_take4, gn_nb4 _ (by omega)]
  have h := fstep_ok hg (by rw [frm_length]; omega) hp (by rw [frm_length]; omega) (by
    rw [frm_mid, frm_end, List.take_of_length_le (by simp [nb_length]), gn_nb4 _ (crc_lt p)])
  rw [frames_some h, frm_mid, List.drop_eq_nil_of_le (by rw [frm_length]; omega)]
  rfl
theorem frames_turned (p : List UInt8) (hp : p.length ≤ 65536) (i : Nat) (b : UInt8) (h4 : 4 ≤ i) (hi : i < (frm p).length) (hb : b ≠ (frm p)[i]) :
    frames ((frm p).set i b) = ([], (frm p).set i b) := by
  have hlen := frm_length p
  have hg : gn (((frm p).set i b).take 4) = p.length := by
    rw [List.take_set_of_le h4, frm_take4, gn_nb4 _ (by omega)]
  refine frames_none (fstep_sum hg ?_)
  by_cases hm : i < 4 + p.length
  · rw [List.drop_set_of_lt (by omega), frm_end, List.take_of_length_le (by simp [nb_length]), gn_nb4 _ (crc_lt p), List.drop_set, if_neg (by omega), List.take_set, frm_mid]
    refine fun e => crc_set p (i - 4) b (by omega) ?_ e.symm
    intro e
    apply hb
    rw [e]
    have e2 : p[i - 4]? = (frm p)[i]? := by
      have := congrArg (fun l => l[i - 4]?) (frm_mid p)
      simp only [List.getElem?_take, List.getElem?_drop, if_pos (show i - 4 < p.length by omega), show 4 + (i - 4) = i by omega] at this
      exact this.symm
    rw [List.getElem?_eq_getElem (by omega), List.getElem?_eq_getElem hi] at e2
    injection e2
  · have em : (((frm p).set i b).drop 4).take p.length = p := by
      rw [List.drop_set, if_neg (by omega), List.take_set_of_le (by omega), frm_mid]
    rw [em]
    intro e
    have e2 : nb (crc p) 4 = (nb (crc p) 4).set (i - (4 + p.length)) b := by
      refine gn_inj _ _ (by simp) ?_
      rw [List.drop_set, if_neg (by omega), frm_end, List.take_of_length_le (by simp [nb_length])] at e
      rw [e, gn_nb4 _ (crc_lt p)]
    apply hb
    have e3 := congrArg (fun l => l[i - (4 + p.length)]?) e2
    have hlt : i - (4 + p.length) < (nb (crc p : Int) 4).length := by rw [nb_length]; omega
    simp only [List.getElem?_set_self hlt] at e3
    have e4 : (frm p)[i]? = (nb (crc p : Int) 4)[i - (4 + p.length)]? := by
      rw [← frm_end, List.getElem?_drop, show 4 + p.length + (i - (4 + p.length)) = i by omega]
    rw [e3, List.getElem?_eq_getElem hi] at e4
    injection e4 with e4
    exact e4.symm
theorem frm_97 : frm [97] = [0, 0, 0, 1, 97, 0xE8, 0xB7, 0xBE, 0x43] := by decide
end Go.Proofs.Ytabdnepfcohncaa
