/- Numbers as bytes: what 'n<<8 | int(c)' comes to at int. -/
import Derived.WalkKit
import Derived.IntWalk
namespace Go.Proofs.Ytabdnepfcohncaa
open Go.RowKit
def gn (l : List UInt8) : Nat := l.foldl (fun n b => n * 256 + b.toNat) 0
theorem gn_snoc (l : List UInt8) (b : UInt8) : gn (l ++ [b]) = gn l * 256 + b.toNat := by simp [gn]
theorem gn_take_succ (l : List UInt8) (k : Nat) (h : k < l.length) : gn (l.take (k + 1)) = gn (l.take k) * 256 + l[k].toNat := by
  rw [List.take_succ_eq_append_getElem h, gn_snoc]
theorem ofInt_emod (a : Int) : (BitVec.ofInt 64 a).toNat = (a % 18446744073709551616).toNat := by
  rw [BitVec.toNat_ofInt]; rfl
theorem wrap64_emod (a : Int) : wrap64 a % 18446744073709551616 = a % 18446744073709551616 := by
  unfold wrap64; omega
theorem wrap64_of_emod {a b : Int} (h : a % 18446744073709551616 = b % 18446744073709551616) : wrap64 a = wrap64 b := by
  unfold wrap64; omega
theorem or_low (x y : Nat) (h : y < 256) : (x * 256) ||| y = x * 256 + y := by
  have := Nat.shiftLeft_add_eq_or_of_lt (i := 8) h x
  rw [Nat.shiftLeft_eq] at this
  exact this.symm
theorem shl_or (m : Nat) (b : UInt8) : bits .or .i64 (wrap64 (wrap64 (m : Int) * 256)) (wrap64 (b.toNat : Int)) = wrap64 ((m * 256 + b.toNat : Nat) : Int) := by
  have hb := b.toNat_lt
  show IntKind.i64.wrap ((BitVec.ofInt 64 _ ||| BitVec.ofInt 64 _).toNat : Int) = _
  rw [BitVec.toNat_or, ofInt_emod, ofInt_emod, wrap64_emod, wrap64_emod]
  have e1 : (wrap64 (m : Int) * 256 % 18446744073709551616).toNat = (m % 72057594037927936) * 256 := by unfold wrap64; omega
  have e2 : ((b.toNat : Int) % 18446744073709551616).toNat = b.toNat := by omega
  rw [e1, e2, or_low _ _ (by omega)]
  rw [IntKind.wrap_i64]
  unfold wrap64
  omega

theorem ofInt_u32 (a : Nat) (ha : a < 4294967296) : (BitVec.ofInt 32 (a : Int)).toNat = a := by
  rw [BitVec.ofInt_natCast, BitVec.toNat_ofNat]; exact Nat.mod_eq_of_lt (by omega)
theorem u32_xor (a b : Nat) (ha : a < 4294967296) (hb : b < 4294967296) : bits .xor .u32 (a : Int) (b : Int) = ((a ^^^ b : Nat) : Int) := by
  have hx : a ^^^ b < 2 ^ 32 := Nat.xor_lt_two_pow (by omega) (by omega)
  show IntKind.u32.wrap ((BitVec.ofInt 32 (a : Int) ^^^ BitVec.ofInt 32 (b : Int)).toNat : Int) = _
  rw [BitVec.toNat_xor, ofInt_u32 a ha, ofInt_u32 b hb, IntKind.wrap_u32]
  omega
theorem u32_and1 (a : Nat) (ha : a < 4294967296) : bits .and .u32 (a : Int) 1 = ((a % 2 : Nat) : Int) := by
  show IntKind.u32.wrap ((BitVec.ofInt 32 (a : Int) &&& BitVec.ofInt 32 ((1 : Nat) : Int)).toNat : Int) = _
  rw [BitVec.toNat_and, ofInt_u32 a ha, ofInt_u32 1 (by omega), IntKind.wrap_u32, Nat.and_one_is_mod]
  omega
/-- One bit, one byte, and all bytes of the checksum. -/
def crcBit (x : Nat) : Nat := if x % 2 = 1 then (x / 2) ^^^ 3988292384 else x / 2
def crcBits : Nat → Nat → Nat
  | 0, x => x
  | n + 1, x => crcBit (crcBits n x)
def crcByte (x : Nat) (b : UInt8) : Nat := crcBits 8 (x ^^^ b.toNat)
def crcFold (l : List UInt8) : Nat := l.foldl crcByte 4294967295
def crc (l : List UInt8) : Nat := 4294967295 ^^^ crcFold l
theorem crcBit_lt {x : Nat} (h : x < 4294967296) : crcBit x < 4294967296 := by
  unfold crcBit
  split
  · exact Nat.xor_lt_two_pow (n := 32) (by omega) (by omega)
  · omega
theorem crcBits_lt (n : Nat) {x : Nat} (h : x < 4294967296) : crcBits n x < 4294967296 := by
  induction n with
  | zero => exact h
  | succ n ih => exact crcBit_lt ih
theorem crcByte_lt {x : Nat} (b : UInt8) (h : x < 4294967296) : crcByte x b < 4294967296 := by
  have := b.toNat_lt
  exact crcBits_lt 8 (Nat.xor_lt_two_pow (n := 32) h (by omega))
theorem crcFold_snoc (l : List UInt8) (b : UInt8) : crcFold (l ++ [b]) = crcByte (crcFold l) b := by simp [crcFold]
theorem foldl_lt (l : List UInt8) : ∀ x, x < 4294967296 → l.foldl crcByte x < 4294967296 := by
  induction l with
  | nil => exact fun x h => h
  | cons b l ih => exact fun x h => ih _ (crcByte_lt b h)
theorem crcFold_lt (l : List UInt8) : crcFold l < 4294967296 := foldl_lt l _ (by omega)
theorem crc_lt (l : List UInt8) : crc l < 4294967296 := Nat.xor_lt_two_pow (n := 32) (by omega) (crcFold_lt l)
theorem crcFold_take_succ (l : List UInt8) (k : Nat) (h : k < l.length) : crcFold (l.take (k + 1)) = crcByte (crcFold (l.take k)) l[k] := by
  rw [List.take_succ_eq_append_getElem h, crcFold_snoc]
end Go.Proofs.Ytabdnepfcohncaa
namespace Go.Proofs.Ytabdnepfcohncaa
open Go.RowKit
/-! The frames of bytes. -/
theorem gn_lt_aux (l : List UInt8) : ∀ x k : Nat, x < 256 ^ k → l.foldl (fun n b => n * 256 + b.toNat) x < 256 ^ (k + l.length) := by
  induction l with
  | nil => exact fun x k h => by simpa using h
  | cons b l ih =>
    intro x k h
    have hb := b.toNat_lt
    have : x * 256 + b.toNat < 256 ^ (k + 1) := by rw [Nat.pow_succ]; omega
    have := ih _ _ this
    simpa [Nat.add_assoc, Nat.add_comm 1] using this
theorem gn_lt (l : List UInt8) : gn l < 256 ^ l.length := by unfold gn; simpa using gn_lt_aux l 0 0 (by simp)
theorem gn_lt4 (l : List UInt8) (h : l.length = 4) : gn l < 4294967296 := by have := gn_lt l; rw [h] at this; exact this
def fstep (l : List UInt8) : Option (List UInt8 × List UInt8) :=
  if l.length < 8 then none
  else if 65536 < gn (l.take 4) then none
  else if l.length < gn (l.take 4) + 8 then none
  else if gn ((l.drop (4 + gn (l.take 4))).take 4) = crc ((l.drop 4).take (gn (l.take 4))) then some ((l.drop 4).take (gn (l.take 4)), l.drop (8 + gn (l.take 4)))
  else none
theorem fstep_lt {l p r : List UInt8} (h : fstep l = some (p, r)) : r.length < l.length := by
  unfold fstep at h
  split at h <;> try cases h
  split at h <;> try cases h
  split at h <;> try cases h
  split at h <;> try cases h
  simp
  omega
def framesN : Nat → List UInt8 → List (List UInt8) × List UInt8
  | 0, l => ([], l)
  | k + 1, l => match fstep l with
    | none => ([], l)
    | some (p, r) => (p :: (framesN k r).1, (framesN k r).2)
theorem framesN_any : ∀ (k j : Nat) (l : List UInt8), l.length ≤ k → l.length ≤ j → framesN k l = framesN j l := by
  intro k
  induction k with
  | zero =>
    intro j l h _
    have : l = [] := List.eq_nil_of_length_eq_zero (by omega)
    subst this
    cases j <;> simp [framesN, fstep]
  | succ k ih =>
    intro j l hk hj
    cases j with
    | zero =>
      have : l = [] := List.eq_nil_of_length_eq_zero (by omega)
      subst this
      simp [framesN, fstep]
    | succ j =>
      simp only [framesN]
      cases h : fstep l with
      | none => rfl
      | some pr =>
        obtain ⟨p, r⟩ := pr
        have := fstep_lt h
        simp only []
        rw [ih j r (by omega) (by omega)]
def frames (l : List UInt8) : List (List UInt8) × List UInt8 := framesN l.length l
theorem frames_none {l : List UInt8} (h : fstep l = none) : frames l = ([], l) := by
  unfold frames
  cases hl : l.length with
  | zero => rfl
  | succ k => simp [framesN, h]
theorem frames_some {l p r : List UInt8} (h : fstep l = some (p, r)) : frames l = (p :: (frames r).1, (frames r).2) := by
  have hlt := fstep_lt h
  unfold frames
  cases hl : l.length with
  | zero => omega
  | succ k =>
    simp only [framesN, h]
    rw [framesN_any k r.length r (by omega) (Nat.le_refl _)]
theorem fstep_short {r : List UInt8} (h : r.length < 8) : fstep r = none := by unfold fstep; rw [if_pos h]
theorem fstep_big {r : List UInt8} {g : Nat} (hg : gn (r.take 4) = g) (h : 65536 < g) : fstep r = none := by
  unfold fstep
  split
  · rfl
  · rw [hg, if_pos h]
theorem fstep_fit {r : List UInt8} {g : Nat} (hg : gn (r.take 4) = g) (h : r.length < g + 8) : fstep r = none := by
  unfold fstep
  split
  · rfl
  · split
    · rfl
    · rw [hg, if_pos h]
theorem fstep_sum {r : List UInt8} {g : Nat} (hg : gn (r.take 4) = g) (h : gn ((r.drop (4 + g)).take 4) ≠ crc ((r.drop 4).take g)) : fstep r = none := by
  unfold fstep
  split
  · rfl
  · split
    · rfl
    · split
      · rfl
      · rw [hg, if_neg h]
theorem fstep_ok {r : List UInt8} {g : Nat} (hg : gn (r.take 4) = g) (h8 : 8 ≤ r.length) (h1 : g ≤ 65536) (h2 : g + 8 ≤ r.length) (h : gn ((r.drop (4 + g)).take 4) = crc ((r.drop 4).take g)) :
    fstep r = some ((r.drop 4).take g, r.drop (8 + g)) := by
  unfold fstep
  rw [if_neg (by omega), hg, if_neg (by omega), if_neg (by omega), if_pos h]
theorem frames_go {l r p r' : List UInt8} {ps : List (List UInt8)} (h : frames l = (ps ++ (frames r).1, (frames r).2)) (hs : fstep r = some (p, r')) : frames l = ((ps ++ [p]) ++ (frames r').1, (frames r').2) := by
  rw [h, frames_some hs]; simp
theorem frames_end {l r : List UInt8} {ps : List (List UInt8)} (h : frames l = (ps ++ (frames r).1, (frames r).2)) (hs : fstep r = none) : frames l = (ps, r) := by
  rw [h, frames_none hs]; simp
theorem ofInt_u8 (a : Nat) (ha : a < 256) : (BitVec.ofInt 8 (a : Int)).toNat = a := by
  rw [BitVec.ofInt_natCast, BitVec.toNat_ofNat]; exact Nat.mod_eq_of_lt (by omega)
theorem u8_xor (a b : Nat) (ha : a < 256) (hb : b < 256) : bits .xor .u8 (a : Int) (b : Int) = ((a ^^^ b : Nat) : Int) := by
  have hx : a ^^^ b < 2 ^ 8 := Nat.xor_lt_two_pow (by omega) (by omega)
  show IntKind.u8.wrap ((BitVec.ofInt 8 (a : Int) ^^^ BitVec.ofInt 8 (b : Int)).toNat : Int) = _
  rw [BitVec.toNat_xor, ofInt_u8 a ha, ofInt_u8 b hb, IntKind.wrap_u8]
  omega
theorem u8_or (a b : Nat) (ha : a < 256) (hb : b < 256) : bits .or .u8 (a : Int) (b : Int) = ((a ||| b : Nat) : Int) := by
  have hx : a ||| b < 2 ^ 8 := Nat.or_lt_two_pow (by omega) (by omega)
  show IntKind.u8.wrap ((BitVec.ofInt 8 (a : Int) ||| BitVec.ofInt 8 (b : Int)).toNat : Int) = _
  rw [BitVec.toNat_or, ofInt_u8 a ha, ofInt_u8 b hb, IntKind.wrap_u8]
  omega
/-- A byte turned by 'x ^= by | 1' is another byte. -/
theorem u8_turn (x : UInt8) (b : Int) (h0 : 0 ≤ b) (h1 : b ≤ 255) : ∃ y : UInt8, bits .xor .u8 (x.toNat : Int) (bits .or .u8 b 1) = (y.toNat : Int) ∧ y ≠ x := by
  obtain ⟨m, rfl⟩ := Int.eq_ofNat_of_zero_le h0
  have hx := x.toNat_lt
  have ho : m ||| 1 < 2 ^ 8 := Nat.or_lt_two_pow (by omega) (by omega)
  have hxo : x.toNat ^^^ (m ||| 1) < 2 ^ 8 := Nat.xor_lt_two_pow hx ho
  have e : bits .or .u8 (m : Int) 1 = ((m ||| 1 : Nat) : Int) := u8_or m 1 (by omega) (by omega)
  have h2 : (UInt8.ofNat (x.toNat ^^^ (m ||| 1))).toNat = x.toNat ^^^ (m ||| 1) := by
    rw [UInt8.toNat_ofNat']; exact Nat.mod_eq_of_lt hxo
  refine ⟨UInt8.ofNat (x.toNat ^^^ (m ||| 1)), by rw [e, u8_xor _ _ (by omega) (by omega), h2], fun h => ?_⟩
  rw [← UInt8.toNat_inj, h2] at h
  have h3 := congrArg (x.toNat ^^^ ·) h
  simp only [← Nat.xor_assoc, Nat.xor_self, Nat.zero_xor] at h3
  have := Nat.right_le_or (m := 1) (n := m)
  omega
theorem turn_index (a : Int) (n : Nat) (hn : n ≤ 5000) :
    ∃ i : Nat, wrap64 (4 + wrap64 ((IntKind.u64.wrap a).tmod ((n : Int) + 8 - 4))) = (i : Int) ∧ 4 ≤ i ∧ i < n + 8 := by
  rw [IntKind.wrap_u64]
  rw [Int.tmod_eq_emod_of_nonneg (by omega)]
  have h1 := Int.emod_nonneg (a % 18446744073709551616) (show ((n : Int) + 8 - 4) ≠ 0 by omega)
  have h2 := Int.emod_lt_of_pos (a % 18446744073709551616) (show (0 : Int) < ((n : Int) + 8 - 4) by omega)
  generalize a % 18446744073709551616 % ((n : Int) + 8 - 4) = z at *
  exact ⟨(4 + z).toNat, by unfold wrap64; omega, by omega, by omega⟩
end Go.Proofs.Ytabdnepfcohncaa
