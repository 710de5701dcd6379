/- Proved here: what the proof of StockLogs rests on, part 3 of 6. Conditions: those that each theorem names. -/
import Derived.Test.YtabdnepfcohncaaStockLogsK2
namespace Go.Proofs.Ytabdnepfcohncaa.Abs
set_option linter.unusedSimpArgs false
set_option linter.unusedVariables false
open Go.RowKit
open Go.Proofs.Ytabdnepfcohncaa.Sim
open Go.Proofs
theorem ofInt_u32 (a : Nat) (ha : a < 4294967296) : (BitVec.ofInt 32 (a : Int)).toNat = a := by
 rw [BitVec.ofInt_natCast, BitVec.toNat_ofNat]; exact Nat.mod_eq_of_lt (by omega)
theorem u32_nat {a : Nat} (ha : a < 4294967296) : IntKind.u32.wrap ((a : Nat) : Int) = (a : Nat) := by
 rw [IntKind.wrap_u32]; omega
theorem xor_lt {a b : Nat} (ha : a < 4294967296) (hb : b < 4294967296) : a ^^^ b < 4294967296 := Nat.xor_lt_two_pow (n := 32) ha hb
section
variable {P : Program} {nt : Nat} {ops : Array Oper} {t : Fm} {m : AM} {K : Fm → AM → Prop} {d T : Nat} {p : String} {af : Array Edge} {x y : Operand} {X Y : TypeId} {a b : Nat}
theorem Step.xor32 (hx : evo t x = some (.int .u32 ((a : Nat) : Int))) (hy : evo t y = some (.int .u32 ((b : Nat) : Int))) (ha : a < 4294967296) (hb : b < 4294967296) (hlt : Nat.blt d nt = true) (hK : K (put t d (.int .u32 ((a ^^^ b : Nat) : Int))) m) : Step P nt ops ⟨some d, .binOp .xor X x y Y, T, p, af, none⟩ t m K := by
 refine .ground rfl rfl hlt (by simp [Op.operands, hx, hy, g1, g0]) (fun h => by simp only [aquiet, evD_of hx, evD_of hy, aint, anil]; simpa [evD_of hx, evD_of hy] using h) ?_ (by simp [g1, g0]) hK
 have h1 : IntKind.u32.wrap ((BitVec.ofInt IntKind.u32.bits (a : Int) ^^^ BitVec.ofInt IntKind.u32.bits (b : Int)).toNat : Int) = ((a ^^^ b : Nat) : Int) := by
  show IntKind.u32.wrap ((BitVec.ofInt 32 (a : Int) ^^^ BitVec.ofInt 32 (b : Int)).toNat : Int) = _
  rw [BitVec.toNat_xor, ofInt_u32 a ha, ofInt_u32 b hb]
  exact u32_nat (xor_lt ha hb)
 simp only [execOp, eqGuard, binOp, evD_of hx, evD_of hy, Op.intBits, bind, Sem.bind, pure, Sim.still, h1]
 rfl
theorem Step.and32 (hx : evo t x = some (.int .u32 ((a : Nat) : Int))) (hy : evo t y = some (.int .u32 1)) (ha : a < 4294967296) (hlt : Nat.blt d nt = true) (hK : K (put t d (.int .u32 ((a % 2 : Nat) : Int))) m) : Step P nt ops ⟨some d, .binOp .and X x y Y, T, p, af, none⟩ t m K := by
 refine .ground rfl rfl hlt (by simp [Op.operands, hx, hy, g1, g0]) (fun h => by simp only [aquiet, evD_of hx, evD_of hy, aint, anil]; simpa [evD_of hx, evD_of hy] using h) ?_ (by simp [g1, g0]) hK
 have h1 : IntKind.u32.wrap ((BitVec.ofInt IntKind.u32.bits (a : Int) &&& BitVec.ofInt IntKind.u32.bits 1).toNat : Int) = ((a % 2 : Nat) : Int) := by
  show IntKind.u32.wrap ((BitVec.ofInt 32 (a : Int) &&& BitVec.ofInt 32 ((1 : Nat) : Int)).toNat : Int) = _
  rw [BitVec.toNat_and, ofInt_u32 a ha, ofInt_u32 1 (by omega), Nat.and_one_is_mod]
  exact u32_nat (by omega)
 simp only [execOp, eqGuard, binOp, evD_of hx, evD_of hy, Op.intBits, bind, Sem.bind, pure, Sim.still, h1]
 rfl
theorem Step.shr32 {kk : IntKind} (hx : evo t x = some (.int .u32 ((a : Nat) : Int))) (hy : evo t y = some (.int kk 1)) (hlt : Nat.blt d nt = true) (hK : K (put t d (.int .u32 ((a / 2 : Nat) : Int))) m) : Step P nt ops ⟨some d, .binOp .shr X x y Y, T, p, af, none⟩ t m K := by
 refine .ground rfl rfl hlt (by simp [Op.operands, hx, hy, g1, g0]) (fun h => by simp only [aquiet, evD_of hx, evD_of hy, aint, anil]; simpa [evD_of hx, evD_of hy] using h) ?_ (by simp [g1, g0]) hK
 have h4 : ((a : Nat) : Int).fdiv 2 = ((a / 2 : Nat) : Int) := by
  rw [Int.fdiv_eq_ediv_of_nonneg _ (by omega)]; push_cast; rfl
 have h5 : ((a : Nat) : Int).fdiv 2 = ((a : Nat) : Int) / 2 := Int.fdiv_eq_ediv_of_nonneg _ (by omega)
 simp [execOp, eqGuard, binOp, evD_of hx, evD_of hy, Op.shift, IntKind.bits, h5, bind, Sem.bind, pure, Sim.still]
theorem Step.not32 (hx : evo t x = some (.int .u32 ((a : Nat) : Int))) (ha : a < 4294967296) (hlt : Nat.blt d nt = true) (hK : K (put t d (.int .u32 ((4294967295 ^^^ a : Nat) : Int))) m) : Step P nt ops ⟨some d, .unOp .xor X x, T, p, af, none⟩ t m K := by
 refine .ground rfl rfl hlt (by simp [Op.operands, hx, g1, g0]) (fun h => by simpa [aquiet] using h) ?_ (by simp [g1, g0]) hK
 have h1 : IntKind.u32.wrap ((BitVec.ofInt IntKind.u32.bits IntKind.u32.max ^^^ BitVec.ofInt IntKind.u32.bits (a : Int)).toNat : Int) = ((4294967295 ^^^ a : Nat) : Int) := by
  show IntKind.u32.wrap ((BitVec.ofInt 32 ((4294967295 : Nat) : Int) ^^^ BitVec.ofInt 32 (a : Int)).toNat : Int) = _
  rw [BitVec.toNat_xor, ofInt_u32 a ha, ofInt_u32 _ (by omega)]
  exact u32_nat (xor_lt (by omega) ha)
 simp only [execOp, Op.unary, evD_of hx, Op.intBits, bind, Sem.bind, pure, Sim.still]
 rw [show IntKind.u32.signed = false from rfl]
 simp only [Bool.false_eq_true, if_false, h1]
theorem Step.u8W {a : Int} (hx : evo t x = some (.int .u8 a)) (hX : P.underlying X = some (.int .u8)) (hY : P.underlying Y = some (.int .u32)) (hr : 0 ≤ a ∧ a ≤ 255) (hlt : Nat.blt d nt = true) (hK : K (put t d (.int .u32 a)) m) :
  Step P nt ops ⟨some d, .convert X Y x, T, p, af, none⟩ t m K := by
 refine .ground rfl rfl hlt (by simp [Op.operands, hx, g1, g0]) (fun h => by simpa [aquiet] using h) ?_ (by simp [g1, g0]) hK
 have hw : IntKind.u32.wrap a = a := by rw [IntKind.wrap_u32]; omega
 simp only [execOp, evD_of hx, bind]
 rw [still_bind]
 unfold convert
 simp only [bind]
 rw [still_bind, still_und hX]
 simp only
 rw [still_bind, still_und hY]
 simp [Conv.intToInt, hw, pure, Sim.still]
theorem Step.u32I {a : Int} (hx : evo t x = some (.int .u32 a)) (hX : P.underlying X = some (.int .u32)) (hY : P.underlying Y = some (.int .i64)) (hr : 0 ≤ a ∧ a ≤ 4294967295) (hlt : Nat.blt d nt = true) (hK : K (put t d (.int .i64 a)) m) :
  Step P nt ops ⟨some d, .convert X Y x, T, p, af, none⟩ t m K := by
 refine .ground rfl rfl hlt (by simp [Op.operands, hx, g1, g0]) (fun h => by simpa [aquiet] using h) ?_ (by simp [g1, g0]) hK
 have hw : IntKind.i64.wrap a = a := IntWalk.i64_in a (by omega)
 simp only [execOp, evD_of hx, bind]
 rw [still_bind]
 unfold convert
 simp only [bind]
 rw [still_bind, still_und hX]
 simp only
 rw [still_bind, still_und hY]
 simp [Conv.intToInt, hw, pure, Sim.still]
end
def crcBit (x : Nat) : Nat := if x % 2 = 1 then (x / 2) ^^^ 3988292384 else x / 2
def crcBits : Nat → Nat → Nat
 | 0, x => x
 | n + 1, x => crcBit (crcBits n x)
def crcByte (x : Nat) (b : UInt8) : Nat := crcBits 8 (x ^^^ b.toNat)
def crcFold (l : List UInt8) : Nat := l.foldl crcByte 4294967295
def crc (l : List UInt8) : Nat := 4294967295 ^^^ crcFold l
theorem crcBit_lt {x : Nat} (h : x < 4294967296) : crcBit x < 4294967296 := by
 unfold crcBit
 split
 ·exact xor_lt (by omega) (by omega)
 ·omega
theorem crcBits_lt (n : Nat) {x : Nat} (h : x < 4294967296) : crcBits n x < 4294967296 := by
 induction n with
 | zero => exact h
 | succ n ih => exact crcBit_lt ih
theorem crcByte_lt {x : Nat} (b : UInt8) (h : x < 4294967296) : crcByte x b < 4294967296 := by
 have := b.toNat_lt
 exact crcBits_lt 8 (xor_lt h (by omega))
theorem crcFold_snoc (l : List UInt8) (b : UInt8) : crcFold (l ++ [b]) = crcByte (crcFold l) b := by simp [crcFold]
theorem foldC_lt (l : List UInt8) : ∀ x, x < 4294967296 → l.foldl crcByte x < 4294967296 := by
 induction l with
 | nil => exact fun x h => h
 | cons b l ih => exact fun x h => ih _ (crcByte_lt b h)
theorem crcFold_lt (l : List UInt8) : crcFold l < 4294967296 := foldC_lt l _ (by omega)
theorem crc_lt (l : List UInt8) : crc l < 4294967296 := xor_lt (by omega) (crcFold_lt l)
theorem un192 : Try.prog.underlying 192 = some (.int .u32) := by kernel_rfl
set_option maxRecDepth 100000 in
theorem check_ok {m : AM} {v : Value} {l : List UInt8} (h : Byts m v l) (hn : l.length ≤ 9223372036854775807) : ACall Try.prog 72 #[v] m (Ret (.int .i64 (crc l : Nat)) m) := by
 obtain ⟨a, o, h1, h2, h3⟩ := h
 refine ACall.start Try.func72 rfl rfl ?_
 (repeat (first|(with_reducible refine AWo.cons ?_)|((with_reducible refine Step.id ?_);first|((with_reducible apply Step.move);exact rfl;exact rfl)|((with_reducible apply Step.assign);exact rfl;exact rfl)|((with_reducible apply Step.len);exact rfl;((assumption));((decide +kernel));exact rfl))|(with_reducible first|apply AWo.nil|apply AW.seq|apply Then.n|apply AW.regL|apply AW.block)))
 refine AW.loopT (fun q t L => ∃ k : Nat, q = l.length - k ∧ k ≤ l.length ∧ L = [] ∧
  t = [(3, .int .u32 (crcFold (l.take k) : Nat)), (6, v), (7, .int .i64 (l.length : Nat)), (8, .int .i64 (k : Nat))]) ⟨_, _, _, (Or.inl ⟨rfl, (by repeat (first | exact trivial | (refine And.intro rfl ?_)))⟩), 0, rfl, Nat.zero_le _, rfl, rfl⟩ ?_
 rintro q t L ⟨k, rfl, hk, rfl, rfl⟩
 have hx := crcFold_lt (l.take k)
 rcases Nat.lt_or_ge k l.length with hlt | hge
 ·have hr := h3 k hlt
  have hb := (l.getD k 0).toNat_lt
  have e := crcFold_snoc (l.take k) (l.getD k 0)
  rw [← take_snocB l k hlt] at e
  have hy := xor_lt hx (show (l.getD k 0).toNat < 4294967296 by omega)
  unfold crcByte at e
  generalize (l.getD k 0).toNat = c at *
  generalize crcFold (l.take k) = x at *
  (repeat (first|(with_reducible refine AWo.cons ?_)|((with_reducible refine Step.id ?_);first|((with_reducible apply Step.move);exact rfl;exact rfl)|((with_reducible apply Step.assign);exact rfl;exact rfl)|((with_reducible apply Step.load);exact rfl;((decide +kernel));exact rfl;((exact Rd.old _ (by assumption))))|((with_reducible apply Step.ix1);exact rfl;((assumption));exact rfl;((decide +kernel));exact rfl;((omega)))|((with_reducible apply Step.lss);exact rfl;exact rfl;exact rfl))|(with_reducible first|apply AWo.nil|apply AW.seq|apply Then.n|apply AW.regL|apply AW.block|apply AW.skip)|((with_reducible apply AW.condT);exact rfl;(((simp only [zq1, zq2, zq3, zq4, zq5, zq6];first|assumption|omega))))))
  ((with_reducible apply Step.u8W);exact rfl;exact un5;exact un192;((omega));exact rfl)
  (repeat ((with_reducible refine AWo.cons ?_)))
  ((with_reducible apply Step.xor32);exact rfl;exact rfl;exact hx;((omega));exact rfl)
  (repeat (first|(with_reducible refine AWo.cons ?_)|((with_reducible refine Step.id ?_);first|((with_reducible apply Step.move);exact rfl;exact rfl)|((with_reducible apply Step.assign);exact rfl;exact rfl))|(with_reducible first|apply AWo.nil|apply AW.seq|apply Then.n|apply AW.regL|apply AW.block)))
  generalize x ^^^ c = y at *
  refine AW.loopT (fun q t L => ∃ i : Nat, q = 8 - i ∧ i ≤ 8 ∧ L = [] ∧
   t = [(3, .int .u32 (crcBits i y : Nat)), (6, v), (7, .int .i64 (l.length : Nat)), (8, .int .i64 (k : Nat)), (16, .int .i64 (i : Nat))]) ⟨_, _, _, (Or.inl ⟨rfl, (by repeat (first | exact trivial | (refine And.intro rfl ?_)))⟩), 0, rfl, Nat.zero_le _, rfl, rfl⟩ ?_
  rintro q t L ⟨i, rfl, hi, rfl, rfl⟩
  have hz := crcBits_lt i hy
  have hS : crcBits (i + 1) y = crcBit (crcBits i y) := rfl
  rcases Nat.lt_or_ge i 8 with h8 | h8
  ·generalize crcBits i y = z at *
   (repeat (first|(with_reducible refine AWo.cons ?_)|((with_reducible refine Step.id ?_);first|((with_reducible apply Step.move);exact rfl;exact rfl)|((with_reducible apply Step.lss);exact rfl;exact rfl;exact rfl))|(with_reducible first|apply AWo.nil|apply AW.seq|apply Then.n|apply AW.regL|apply AW.block|apply AW.skip)|((with_reducible apply AW.condT);exact rfl;(((simp only [zq1, zq2, zq3, zq4, zq5, zq6];first|assumption|omega))))))
   ((with_reducible apply Step.and32);exact rfl;exact rfl;exact hz;exact rfl)
   by_cases ho : z % 2 = 1
   ·have ho' : ((z % 2 : Nat) : Int) = 1 := by omega
    rw [ho']
    (repeat (first|(with_reducible refine AWo.cons ?_)|((with_reducible refine Step.id ?_);first|((with_reducible apply Step.move);exact rfl;exact rfl)|((with_reducible apply Step.eql);exact rfl;exact rfl;exact rfl))|(with_reducible first|apply AWo.nil|apply Then.n|apply AW.regL)|((with_reducible apply AW.condT);exact rfl;((rfl)))))
    ((with_reducible apply Step.shr32);exact rfl;exact rfl;exact rfl)
    (repeat ((with_reducible refine AWo.cons ?_)))
    ((with_reducible apply Step.xor32 (b := 3988292384));exact rfl;exact rfl;((omega));((omega));exact rfl)
    (repeat (first|(with_reducible refine AWo.cons ?_)|((with_reducible refine Step.id ?_);first|((with_reducible apply Step.move);exact rfl;exact rfl)|((with_reducible apply Step.assign);exact rfl;exact rfl)|((with_reducible apply Step.add);exact rfl;exact rfl;((omega));exact rfl))|(with_reducible first|apply AWo.nil|apply Then.n|apply AW.regL|apply InBlk.n)))
    exact ⟨_, [(3, .int .u32 ((z / 2 ^^^ 3988292384 : Nat) : Int)), (6, v), (7, .int .i64 (l.length : Nat)), (8, .int .i64 (k : Nat)), (16, .int .i64 (i + 1 : Nat))], [], by omega, (Or.inl ⟨rfl, (by repeat (first | exact trivial | (refine And.intro rfl ?_)))⟩), i + 1, rfl, by omega, rfl, by rw [hS, crcBit, if_pos ho]⟩
   ·have ho' : ((z % 2 : Nat) : Int) = 0 := by omega
    rw [ho']
    (repeat (first|(with_reducible refine AWo.cons ?_)|((with_reducible refine Step.id ?_);first|((with_reducible apply Step.move);exact rfl;exact rfl)|((with_reducible apply Step.eql);exact rfl;exact rfl;exact rfl))|(with_reducible first|apply AWo.nil|apply Then.n|apply AW.regL)|((with_reducible apply AW.condF);exact rfl;((rfl)))))
    ((with_reducible apply Step.shr32);exact rfl;exact rfl;exact rfl)
    (repeat (first|(with_reducible refine AWo.cons ?_)|((with_reducible refine Step.id ?_);first|((with_reducible apply Step.move);exact rfl;exact rfl)|((with_reducible apply Step.assign);exact rfl;exact rfl)|((with_reducible apply Step.add);exact rfl;exact rfl;((omega));exact rfl))|(with_reducible first|apply AWo.nil|apply Then.n|apply AW.regL|apply InBlk.n)))
    exact ⟨_, [(3, .int .u32 ((z / 2 : Nat) : Int)), (6, v), (7, .int .i64 (l.length : Nat)), (8, .int .i64 (k : Nat)), (16, .int .i64 (i + 1 : Nat))], [], by omega, (Or.inl ⟨rfl, (by repeat (first | exact trivial | (refine And.intro rfl ?_)))⟩), i + 1, rfl, by omega, rfl, by rw [hS, crcBit, if_neg ho]⟩
  ·obtain rfl : i = 8 := by omega
   rw [← e]
   (repeat (first|(with_reducible refine AWo.cons ?_)|((with_reducible refine Step.id ?_);first|((with_reducible apply Step.move);exact rfl;exact rfl)|((with_reducible apply Step.add);exact rfl;exact rfl;((omega));exact rfl)|((with_reducible apply Step.lss);exact rfl;exact rfl;exact rfl))|(with_reducible first|apply AWo.nil|apply AW.seq|apply Then.n|apply AW.regL|apply AW.exit|apply InBlk.n|apply InBlk.hit|apply Then.e)|((with_reducible apply AW.condF);exact rfl;((rfl)))))
   exact ⟨_, _, _, by omega, (Or.inl ⟨rfl, (by repeat (first | exact trivial | (refine And.intro rfl ?_)))⟩), k + 1, rfl, by omega, rfl, rfl⟩
 ·obtain rfl : k = l.length := by omega
  rw [List.take_length] at *
  have hc := crc_lt l
  unfold crc at hc
  unfold crc
  generalize crcFold l = x at *
  (repeat (first|(with_reducible refine AWo.cons ?_)|((with_reducible refine Step.id ?_);first|((with_reducible apply Step.move);exact rfl;exact rfl)|((with_reducible apply Step.lss);exact rfl;exact rfl;exact rfl))|(with_reducible first|apply AWo.nil|apply AW.seq|apply Then.n|apply AW.regL|apply AW.exit|apply InBlk.hit|apply Then.e)|((with_reducible apply AW.condF);exact rfl;(((simp only [zq1, zq2, zq3, zq4, zq5, zq6];first|assumption|omega))))))
  ((with_reducible apply Step.not32);exact rfl;exact hx;exact rfl)
  (repeat ((with_reducible refine AWo.cons ?_)))
  ((with_reducible apply Step.u32I);exact rfl;exact un192;exact un3;((omega));exact rfl)
  (repeat (first|(with_reducible refine AWo.cons ?_)|((with_reducible refine Step.id ?_);((with_reducible apply Step.assign);exact rfl;exact rfl))|(with_reducible first|apply AWo.nil|apply Then.n)))
  (refine AW.retD (l := [(2, _)]) (by repeat (first | exact trivial | (refine And.intro ⟨rfl, by (exact .int _ _)⟩ ?_))) ?_; (repeat (first | refine Then.r ?_ | refine InBlk.r ?_)))
  exact ⟨_, rfl, rfl, rfl⟩
set_option maxRecDepth 100000 in
theorem sum_ok {m : AM} {v : Value} {l : List UInt8} (h : Byts m v l) (hn : l.length ≤ 9223372036854775807) : ACall Try.prog 76 #[v] m (Ret (.int .i64 (crc l : Nat)) m) := by
 obtain ⟨a, o, h1, h2, h3⟩ := h
 refine ACall.start Try.func76 rfl rfl ?_
 (repeat (first|(with_reducible refine AWo.cons ?_)|((with_reducible refine Step.id ?_);first|((with_reducible apply Step.move);exact rfl;exact rfl)|((with_reducible apply Step.assign);exact rfl;exact rfl)|((with_reducible apply Step.len);exact rfl;((assumption));((decide +kernel));exact rfl))|(with_reducible first|apply AWo.nil|apply AW.seq|apply Then.n|apply AW.regL|apply AW.block)))
 refine AW.loopT (fun q t L => ∃ k : Nat, q = l.length - k ∧ k ≤ l.length ∧ L = [] ∧
  t = [(3, .int .u32 (crcFold (l.take k) : Nat)), (7, v), (8, .int .i64 (l.length : Nat)), (9, .int .i64 (k : Nat))]) ⟨_, _, _, (Or.inl ⟨rfl, (by repeat (first | exact trivial | (refine And.intro rfl ?_)))⟩), 0, rfl, Nat.zero_le _, rfl, rfl⟩ ?_
 rintro q t L ⟨k, rfl, hk, rfl, rfl⟩
 have hx := crcFold_lt (l.take k)
 rcases Nat.lt_or_ge k l.length with hlt | hge
 ·have hr := h3 k hlt
  have hb := (l.getD k 0).toNat_lt
  have e := crcFold_snoc (l.take k) (l.getD k 0)
  rw [← take_snocB l k hlt] at e
  have hy := xor_lt hx (show (l.getD k 0).toNat < 4294967296 by omega)
  unfold crcByte at e
  generalize (l.getD k 0).toNat = c at *
  generalize crcFold (l.take k) = x at *
  (repeat (first|(with_reducible refine AWo.cons ?_)|((with_reducible refine Step.id ?_);first|((with_reducible apply Step.move);exact rfl;exact rfl)|((with_reducible apply Step.assign);exact rfl;exact rfl)|((with_reducible apply Step.load);exact rfl;((decide +kernel));exact rfl;((exact Rd.old _ (by assumption))))|((with_reducible apply Step.ix1);exact rfl;((assumption));exact rfl;((decide +kernel));exact rfl;((omega)))|((with_reducible apply Step.lss);exact rfl;exact rfl;exact rfl))|(with_reducible first|apply AWo.nil|apply AW.seq|apply Then.n|apply AW.regL|apply AW.block|apply AW.skip)|((with_reducible apply AW.condT);exact rfl;(((simp only [zq1, zq2, zq3, zq4, zq5, zq6];first|assumption|omega))))))
  ((with_reducible apply Step.u8W);exact rfl;exact un5;exact un192;((omega));exact rfl)
  (repeat ((with_reducible refine AWo.cons ?_)))
  ((with_reducible apply Step.xor32);exact rfl;exact rfl;exact hx;((omega));exact rfl)
  (repeat (first|(with_reducible refine AWo.cons ?_)|((with_reducible refine Step.id ?_);first|((with_reducible apply Step.move);exact rfl;exact rfl)|((with_reducible apply Step.assign);exact rfl;exact rfl))|(with_reducible first|apply AWo.nil|apply AW.seq|apply Then.n|apply AW.regL|apply AW.block)))
  generalize x ^^^ c = y at *
  refine AW.loopT (fun q t L => ∃ i : Nat, q = 8 - i ∧ i ≤ 8 ∧ L = [] ∧
   t = [(3, .int .u32 (crcBits i y : Nat)), (7, v), (8, .int .i64 (l.length : Nat)), (9, .int .i64 (k : Nat)), (17, .int .i64 (i : Nat))]) ⟨_, _, _, (Or.inl ⟨rfl, (by repeat (first | exact trivial | (refine And.intro rfl ?_)))⟩), 0, rfl, Nat.zero_le _, rfl, rfl⟩ ?_
  rintro q t L ⟨i, rfl, hi, rfl, rfl⟩
  have hz := crcBits_lt i hy
  have hS : crcBits (i + 1) y = crcBit (crcBits i y) := rfl
  rcases Nat.lt_or_ge i 8 with h8 | h8
  ·generalize crcBits i y = z at *
   (repeat (first|(with_reducible refine AWo.cons ?_)|((with_reducible refine Step.id ?_);first|((with_reducible apply Step.move);exact rfl;exact rfl)|((with_reducible apply Step.lss);exact rfl;exact rfl;exact rfl))|(with_reducible first|apply AWo.nil|apply AW.seq|apply Then.n|apply AW.regL|apply AW.block|apply AW.skip)|((with_reducible apply AW.condT);exact rfl;(((simp only [zq1, zq2, zq3, zq4, zq5, zq6];first|assumption|omega))))))
   ((with_reducible apply Step.and32);exact rfl;exact rfl;exact hz;exact rfl)
   by_cases ho : z % 2 = 1
   ·have ho' : ((z % 2 : Nat) : Int) = 1 := by omega
    rw [ho']
    (repeat (first|(with_reducible refine AWo.cons ?_)|((with_reducible refine Step.id ?_);first|((with_reducible apply Step.move);exact rfl;exact rfl)|((with_reducible apply Step.assign);exact rfl;exact rfl))|(with_reducible first|apply AWo.nil|apply AW.seq|apply Then.n|apply AW.regL)))
    ((with_reducible apply Step.shr32);exact rfl;exact rfl;exact rfl)
    (repeat (first|(with_reducible refine AWo.cons ?_)|((with_reducible refine Step.id ?_);first|((with_reducible apply Step.move);exact rfl;exact rfl)|((with_reducible apply Step.assign);exact rfl;exact rfl)|((with_reducible apply Step.eql);exact rfl;exact rfl;exact rfl))|(with_reducible first|apply AWo.nil|apply AW.seq|apply Then.n|apply AW.regL)|((with_reducible apply AW.condT);exact rfl;((rfl)))))
    ((with_reducible apply Step.xor32 (b := 3988292384));exact rfl;exact rfl;((omega));((omega));exact rfl)
    (repeat (first|(with_reducible refine AWo.cons ?_)|((with_reducible refine Step.id ?_);first|((with_reducible apply Step.move);exact rfl;exact rfl)|((with_reducible apply Step.assign);exact rfl;exact rfl)|((with_reducible apply Step.add);exact rfl;exact rfl;((omega));exact rfl))|(with_reducible first|apply AWo.nil|apply Then.n|apply AW.regL|apply InBlk.n)))
    exact ⟨_, [(3, .int .u32 ((z / 2 ^^^ 3988292384 : Nat) : Int)), (7, v), (8, .int .i64 (l.length : Nat)), (9, .int .i64 (k : Nat)), (17, .int .i64 (i + 1 : Nat))], [], by omega, (Or.inl ⟨rfl, (by repeat (first | exact trivial | (refine And.intro rfl ?_)))⟩), i + 1, rfl, by omega, rfl, by rw [hS, crcBit, if_pos ho]⟩
   ·have ho' : ((z % 2 : Nat) : Int) = 0 := by omega
    rw [ho']
    (repeat (first|(with_reducible refine AWo.cons ?_)|((with_reducible refine Step.id ?_);first|((with_reducible apply Step.move);exact rfl;exact rfl)|((with_reducible apply Step.assign);exact rfl;exact rfl))|(with_reducible first|apply AWo.nil|apply AW.seq|apply Then.n|apply AW.regL)))
    ((with_reducible apply Step.shr32);exact rfl;exact rfl;exact rfl)
    (repeat (first|(with_reducible refine AWo.cons ?_)|((with_reducible refine Step.id ?_);first|((with_reducible apply Step.move);exact rfl;exact rfl)|((with_reducible apply Step.assign);exact rfl;exact rfl)|((with_reducible apply Step.add);exact rfl;exact rfl;((omega));exact rfl)|((with_reducible apply Step.eql);exact rfl;exact rfl;exact rfl))|(with_reducible first|apply AWo.nil|apply AW.seq|apply Then.n|apply AW.regL|apply InBlk.n|apply AW.skip)|((with_reducible apply AW.condF);exact rfl;((rfl)))))
    exact ⟨_, [(3, .int .u32 ((z / 2 : Nat) : Int)), (7, v), (8, .int .i64 (l.length : Nat)), (9, .int .i64 (k : Nat)), (17, .int .i64 (i + 1 : Nat))], [], by omega, (Or.inl ⟨rfl, (by repeat (first | exact trivial | (refine And.intro rfl ?_)))⟩), i + 1, rfl, by omega, rfl, by rw [hS, crcBit, if_neg ho]⟩
  ·obtain rfl : i = 8 := by omega
   rw [← e]
   (repeat (first|(with_reducible refine AWo.cons ?_)|((with_reducible refine Step.id ?_);first|((with_reducible apply Step.move);exact rfl;exact rfl)|((with_reducible apply Step.add);exact rfl;exact rfl;((omega));exact rfl)|((with_reducible apply Step.lss);exact rfl;exact rfl;exact rfl))|(with_reducible first|apply AWo.nil|apply AW.seq|apply Then.n|apply AW.regL|apply AW.exit|apply InBlk.n|apply InBlk.hit|apply Then.e)|((with_reducible apply AW.condF);exact rfl;((rfl)))))
   exact ⟨_, _, _, by omega, (Or.inl ⟨rfl, (by repeat (first | exact trivial | (refine And.intro rfl ?_)))⟩), k + 1, rfl, by omega, rfl, rfl⟩
 ·obtain rfl : k = l.length := by omega
  rw [List.take_length] at *
  have hc := crc_lt l
  unfold crc at hc
  unfold crc
  rw [Nat.xor_comm] at hc
  rw [Nat.xor_comm]
  generalize crcFold l = x at *
  (repeat (first|(with_reducible refine AWo.cons ?_)|((with_reducible refine Step.id ?_);first|((with_reducible apply Step.move);exact rfl;exact rfl)|((with_reducible apply Step.lss);exact rfl;exact rfl;exact rfl))|(with_reducible first|apply AWo.nil|apply AW.seq|apply Then.n|apply AW.regL|apply AW.exit|apply InBlk.hit|apply Then.e)|((with_reducible apply AW.condF);exact rfl;(((simp only [zq1, zq2, zq3, zq4, zq5, zq6];first|assumption|omega))))))
  ((with_reducible apply Step.xor32 (b := 4294967295));exact rfl;exact rfl;exact hx;((omega));exact rfl)
  (repeat ((with_reducible refine AWo.cons ?_)))
  ((with_reducible apply Step.u32I);exact rfl;exact un192;exact un3;((omega));exact rfl)
  (repeat (first|(with_reducible refine AWo.cons ?_)|((with_reducible refine Step.id ?_);((with_reducible apply Step.assign);exact rfl;exact rfl))|(with_reducible first|apply AWo.nil|apply Then.n)))
  (refine AW.retD (l := [(2, _)]) (by repeat (first | exact trivial | (refine And.intro ⟨rfl, by (exact .int _ _)⟩ ?_))) ?_; (repeat (first | refine Then.r ?_ | refine InBlk.r ?_)))
  exact ⟨_, rfl, rfl, rfl⟩
theorem bs22z {m : AM} {k : Nat} : abuildSlice Try.prog m k 22 0 [] = some (.slice (some ⟨k, 0, none⟩) 0 0, m.set k (some { cells := [] })) := by kernel_rfl
set_option maxRecDepth 100000 in
theorem clone_ok {m : AM} {v : Value} {l : List UInt8} (h : Byts m v l) (hlen : l.length ≤ 1000000000) : ACall Try.prog 73 #[v] m (More (fun M u => Row M m.length 1 u (by8 l) l.length) m) := by
 obtain ⟨a, o, h1, h3⟩ := h.row
 refine ACall.start Try.func73 rfl rfl ?_
 rcases h1 with ⟨rfl, h0⟩ | ⟨c, hc, rfl⟩ | ⟨h0, o', k', rfl⟩
 ·obtain rfl := List.eq_nil_of_length_eq_zero h0
  (repeat (first|(with_reducible refine AWo.cons ?_)|((with_reducible refine Step.id ?_);first|((with_reducible apply Step.move);exact rfl;exact rfl)|((with_reducible apply Step.assign);exact rfl;exact rfl)|((with_reducible apply Step.nilNil);exact rfl;exact rfl;exact un22;exact rfl))|(with_reducible first|apply AWo.nil|apply AW.seq|apply Then.n|apply AW.regL)|((with_reducible apply AW.condT);exact rfl;((rfl)))))
  (refine AW.ret ?_; (repeat (first | refine Then.r ?_ | refine InBlk.r ?_)))
  exact ⟨_, rfl, [], rfl, Row.nil⟩
 ·have hs : Sl (.slice (some ⟨a, o, none⟩) l.length c) a o l.length := .inr (.inl ⟨c, hc, rfl⟩)
  (repeat (first|(with_reducible refine AWo.cons ?_)|((with_reducible refine Step.id ?_);first|((with_reducible apply Step.move);exact rfl;exact rfl)|((with_reducible apply Step.assign);exact rfl;exact rfl)|((with_reducible apply Step.eqNil);exact rfl;exact rfl;exact un22;exact rfl)|((with_reducible apply Step.buildS 0);exact rfl;exact rfl;exact (fun _ _ => bs22z);exact rfl;((first|(simp only [zq7, zq8, zq9, zq0, iv_set, bv_set, iv_rep, bv_rep] <;> rfl)|rfl))))|(with_reducible first|apply AWo.nil|apply AW.seq|apply Then.n|apply AW.regL|apply AW.skip)|((with_reducible apply AW.condF);exact rfl;((rfl)))))
  ((with_reducible apply Step.appRow2 (b0 := m.length) (n := 0) (c := []));exact rfl;exact rfl;exact (.inr ⟨m.length + 0, .own, 1, by omega, rfl, by rw [get_app];rfl, by simp, .inl rfl⟩);exact hs;exact (fun h => (h3 h).old _);exact el22;exact un22;((rw [by8_len];omega));exact (by8_all l);exact rfl;((omega));exact rfl;((simp)))
  intro u M hr hml hk hk2
  rw [List.nil_append, Nat.zero_add] at hr
  (repeat (first|(with_reducible refine AWo.cons ?_)|((with_reducible refine Step.id ?_);((with_reducible apply Step.assign);exact rfl;exact rfl))|(with_reducible first|apply AWo.nil|apply Then.n)))
  (refine AW.ret ?_; (repeat (first | refine Then.r ?_ | refine InBlk.r ?_)))
  obtain ⟨N, hN⟩ := pre_keep (m0 := m) ⟨_, rfl⟩ hml fun j hj => hk j (by simp; omega) (by intro n' c' e; simp only [Value.slice.injEq, Option.some.injEq, Addr.mk.injEq] at e; omega)
  exact ⟨_, rfl, N, hN, hr⟩
 ·obtain rfl := List.eq_nil_of_length_eq_zero h0
  have hs : Sl (.slice (some ⟨a, o', some k'⟩) 0 0) a o 0 := .inr (.inr ⟨rfl, o', k', rfl⟩)
  (repeat (first|(with_reducible refine AWo.cons ?_)|((with_reducible refine Step.id ?_);first|((with_reducible apply Step.move);exact rfl;exact rfl)|((with_reducible apply Step.assign);exact rfl;exact rfl)|((with_reducible apply Step.eqNil);exact rfl;exact rfl;exact un22;exact rfl)|((with_reducible apply Step.buildS 0);exact rfl;exact rfl;exact (fun _ _ => bs22z);exact rfl;((first|(simp only [zq7, zq8, zq9, zq0, iv_set, bv_set, iv_rep, bv_rep] <;> rfl)|rfl))))|(with_reducible first|apply AWo.nil|apply AW.seq|apply Then.n|apply AW.regL|apply AW.skip)|((with_reducible apply AW.condF);exact rfl;((rfl)))))
  ((with_reducible apply Step.appRow2 (b0 := m.length) (n := 0) (xl := 0) (c := []) (new := []));exact rfl;exact rfl;exact (.inr ⟨m.length + 0, .own, 1, by omega, rfl, by rw [get_app];rfl, by simp, .inl rfl⟩);exact hs;exact (fun h => absurd h (by omega));exact el22;exact un22;exact rfl;exact rfl;exact rfl;((omega));exact rfl;((simp)))
  intro u M hr hml hk hk2
  (repeat (first|(with_reducible refine AWo.cons ?_)|((with_reducible refine Step.id ?_);((with_reducible apply Step.assign);exact rfl;exact rfl))|(with_reducible first|apply AWo.nil|apply Then.n)))
  (refine AW.ret ?_; (repeat (first | refine Then.r ?_ | refine InBlk.r ?_)))
  obtain ⟨N, hN⟩ := pre_keep (m0 := m) ⟨_, rfl⟩ hml fun j hj => hk j (by simp; omega) (by intro n' c' e; simp only [Value.slice.injEq, Option.some.injEq, Addr.mk.injEq] at e; omega)
  exact ⟨_, rfl, N, hN, hr⟩
def frB (p : List UInt8) : List UInt8 := be p.length 4 ++ p ++ be (crc p) 4
theorem frB_len (p : List UInt8) : (frB p).length = p.length + 8 := by simp [frB, be_len]; omega
set_option maxHeartbeats 4000000 in
set_option maxRecDepth 100000 in
theorem frame_ok {m : AM} {b0 : Nat} {v w : Value} {b p : List UInt8} (h : Row m b0 1 v (by8 b) b.length) (hb0 : b0 ≤ m.length) (hp : ∀ M r, Add m M v r → Byts M w p) (hlen : b.length + p.length ≤ 900000000) :
  ACall Try.prog 70 #[v, w] m (fun r M => Row M b0 1 r (by8 (b ++ frB p)) (b ++ frB p).length ∧ Add m M v r) := by
 have hcl := crc_lt p
 obtain ⟨a, o, hs, _⟩ := hp m v (Add.refl m v)
 refine ACall.start Try.func70 rfl rfl ?_
 (repeat (first|(with_reducible refine AWo.cons ?_)|((with_reducible refine Step.id ?_);first|((with_reducible apply Step.move);exact rfl;exact rfl)|((with_reducible apply Step.assign);exact rfl;exact rfl)|((with_reducible apply Step.len);exact rfl;((assumption));((decide +kernel));exact rfl))|(with_reducible first|apply AWo.nil|apply AW.seq|apply Then.n|apply AW.regL)))
 ((with_reducible apply Step.callF fit);exact rfl;exact Try.func96;exact rfl;exact rfl;((rw [List.append_nil];exact put_ok (s := 4) h hb0 (by omega) (by omega) (by omega))))
 rintro r1 M1 ⟨hr1, ha1⟩
 have hl1 : (b ++ be p.length 4).length = b.length + 4 := by rw [List.length_append, be_len]
 obtain ⟨a1, o1, hs1, hd1⟩ := (hp M1 r1 ha1).row
 rw [← List.append_nil M1]
 (repeat (first|(with_reducible refine AWo.cons ?_)|((with_reducible refine Step.id ?_);((with_reducible apply Step.move);exact rfl;exact rfl))))
 ((with_reducible apply Step.appRow2 (b0 := b0));exact rfl;exact rfl;exact (hr1.old []);exact hs1;exact (fun h => (hd1 h).old []);exact el22;exact un22;((rw [by8_len];omega));exact (by8_all p);exact rfl;((omega));exact rfl;((have := ha1.1;simp;omega)))
 intro r2 M2 hr2 hml2 hk2 hn2
 rw [← by8_app, ← List.length_append] at hr2
 rw [List.append_nil] at hml2 hk2 hn2
 have ha2 : Add m M2 v r2 := ha1.trans ⟨hml2, hk2, hn2⟩
 have hck := fun T => check_ok ((hp M2 r2 ha2).old T) (by omega)
 rw [← List.append_nil M2]
 (repeat (first|(with_reducible refine AWo.cons ?_)|((with_reducible refine Step.id ?_);first|((with_reducible apply Step.move);exact rfl;exact rfl)|((with_reducible apply Step.assign);exact rfl;exact rfl)|((with_reducible apply Step.callR fit);exact rfl;exact Try.func72;exact rfl;exact rfl;exact (hck _)))|(with_reducible first|apply AWo.nil|apply AW.seq|apply Then.n|apply AW.regL)))
 ((with_reducible apply Step.callF fit);exact rfl;exact Try.func96;exact rfl;exact rfl;((rw [List.append_nil];exact put_ok (s := 4) hr2 (by have := ha2.1;omega) (by rw [List.length_append];omega) (by omega) (by omega))))
 rintro r3 M3 ⟨hr3, ha3⟩
 rw [← List.append_nil M3]
 (repeat (first|(with_reducible refine AWo.cons ?_)|((with_reducible refine Step.id ?_);((with_reducible apply Step.assign);exact rfl;exact rfl))|(with_reducible first|apply AWo.nil|apply Then.n)))
 (refine AW.ret ?_; (repeat (first | refine Then.r ?_ | refine InBlk.r ?_)))
 rw [List.append_nil]
 refine ⟨_, rfl, ?_, ha2.trans ha3⟩
 have e : b ++ frB p = b ++ be p.length 4 ++ p ++ be (crc p) 4 := by simp [frB]
 rw [e]; exact hr3
set_option maxHeartbeats 4000000 in
set_option maxRecDepth 100000 in
theorem rframe_ok {m : AM} {w : Value} {p : List UInt8} (hp : Byts m w p) (hlen : p.length ≤ 900000000) :
  ACall Try.prog 74 #[w] m (More (fun M r => Row M m.length 1 r (by8 (frB p)) (frB p).length) m) := by
 have hcl := crc_lt p
 obtain ⟨a, o, hs, hd⟩ := hp.row
 refine ACall.start Try.func74 rfl rfl ?_
 (repeat (first|(with_reducible refine AWo.cons ?_)|((with_reducible refine Step.id ?_);first|((with_reducible apply Step.move);exact rfl;exact rfl)|((with_reducible apply Step.assign);exact rfl;exact rfl)|((with_reducible apply Step.len);exact rfl;((assumption));((decide +kernel));exact rfl))|(with_reducible first|apply AWo.nil|apply AW.seq|apply Then.n|apply AW.regL)))
 ((with_reducible apply Step.callX fit);exact rfl;exact Try.func104;exact rfl;exact rfl;exact (number_ok (n := p.length) (s := 4) (by omega) (by omega)))
 rintro r1 M1 ⟨N1, hN1⟩ hr1
 rw [List.append_nil] at hN1 hr1
 subst hN1
 (repeat (first|(with_reducible refine AWo.cons ?_)|((with_reducible refine Step.id ?_);((with_reducible apply Step.move);exact rfl;exact rfl))))
 ((with_reducible apply Step.appRow2 (b0 := m.length));exact rfl;exact rfl;exact (hr1.old []);exact hs;exact (fun h => ((hd h).old N1).old []);exact el22;exact un22;((rw [by8_len];omega));exact (by8_all p);exact rfl;((rw [be_len];omega));exact rfl;((simp)))
 intro r2 M2 hr2 hml2 hk2 hn2
 rw [← by8_app, ← List.length_append] at hr2
 rw [List.append_nil] at hml2 hk2 hn2
 obtain ⟨N2, hN2⟩ := pre_keep (m0 := m) ⟨N1, rfl⟩ hml2 fun j hj => hk2 j (by rw [List.length_append]; omega) (NotOf.row hr1 hj)
 have hck := fun T => sum_ok ((hp.old N2).old T) (by omega)
 rw [← hN2] at hck
 rw [← List.append_nil M2]
 (repeat (first|(with_reducible refine AWo.cons ?_)|((with_reducible refine Step.id ?_);first|((with_reducible apply Step.move);exact rfl;exact rfl)|((with_reducible apply Step.callR fit);exact rfl;exact Try.func76;exact rfl;exact rfl;exact (hck _)))))
 ((with_reducible apply Step.callX fit);exact rfl;exact Try.func104;exact rfl;exact rfl;exact (number_ok (n := crc p) (s := 4) (by omega) (by omega)))
 rintro r3 M3 ⟨N3, hN3⟩ hr3
 rw [List.append_nil] at hN3 hr3
 subst hN3
 have hpos : 0 < (M2 ++ N3).length := by
  obtain ⟨_, _, _, _, h2, _⟩ := hr3.pos (by rw [be_len]; omega)
  omega
 obtain ⟨a3, hs3, _, hd3⟩ := hr3.sl hpos
 (repeat ((with_reducible refine AWo.cons ?_)))
 ((with_reducible apply Step.appRow2 (b0 := m.length));exact rfl;exact rfl;exact ((hr2.old N3).old []);exact hs3;exact (fun h => (hd3 h).old []);exact el22;exact un22;((rw [by8_len];omega));exact (by8_all _);exact rfl;((rw [be_len, List.length_append, be_len];omega));exact rfl;((rw [hN2];simp only [List.length_append];omega)))
 intro r4 M4 hr4 hml4 hk4 hn4
 rw [← by8_app, ← List.length_append] at hr4
 rw [List.append_nil] at hml4 hk4 hn4
 obtain ⟨N4, hN4⟩ := pre_keep (m0 := m) ⟨N2 ++ N3, by rw [hN2]; simp⟩ hml4 fun j hj => hk4 j (by rw [hN2]; simp only [List.length_append]; omega) (NotOf.row hr2 hj)
 rw [← List.append_nil M4]
 (repeat (first|(with_reducible refine AWo.cons ?_)|((with_reducible refine Step.id ?_);((with_reducible apply Step.assign);exact rfl;exact rfl))|(with_reducible first|apply AWo.nil|apply Then.n)))
 (refine AW.ret ?_; (repeat (first | refine Then.r ?_ | refine InBlk.r ?_)))
 exact ⟨_, rfl, N4, by rw [List.append_nil]; exact hN4, by rw [List.append_nil]; exact hr4⟩
inductive Built : Bk → Prop
 | new : Built Bk.new
 | post {B : Bk} {l : List Tr} : Built B → (postF B l).2.2 = 0 → Built (postF B l).1
theorem postF_zero {B : Bk} {l : List Tr} (h : (postF B l).2.2 = 0) : postB l = true ∧ (postF B l).1.P = B.P ++ [l] := by
 revert h
 unfold postF
 split
 ·intro h; exact absurd h (show ¬ ((2 : Int) = 0) by decide)
 ·rename_i hp
  split
  ·intro h; exact absurd h (show ¬ ((11 : Int) = 0) by decide)
  ·split
   ·intro h; exact absurd h (show ¬ ((5 : Int) = 0) by decide)
   ·intro _; exact ⟨by simpa using hp, rfl⟩
theorem be_mod (n : Nat) : ∀ (j q : Nat), be (n + q * 2 ^ (8 * j)) j = be n j
 | 0, q => rfl
 | j + 1, q => by
  show UInt8.ofNat ((n + q * 2 ^ (8 * (j + 1))) / 2 ^ (8 * j)) :: be _ j = UInt8.ofNat (n / 2 ^ (8 * j)) :: be n j
  have e1 : q * 2 ^ (8 * (j + 1)) = (q * 256) * 2 ^ (8 * j) := by
   rw [show 8 * (j + 1) = 8 * j + 8 by omega, Nat.pow_add, show (2 : Nat) ^ 8 = 256 by decide, Nat.mul_assoc, Nat.mul_comm 256]
  rw [e1, be_mod n j (q * 256)]
  congr 1
  apply UInt8.toNat_inj.1
  rw [UInt8.toNat_ofNat', UInt8.toNat_ofNat', Nat.add_mul_div_right _ _ (Nat.pow_pos (by decide))]
  omega
theorem numB_be : ∀ (k n : Nat), n < 2 ^ (8 * k) → numB (be n k) = n
 | 0, n, h => by
  have : n = 0 := by simpa using h
  subst this; rfl
 | k + 1, n, h => by
  rw [show 8 * (k + 1) = 8 * k + 8 by omega, Nat.pow_add] at h
  have hq : n / 2 ^ (8 * k) < 256 := Nat.div_lt_of_lt_mul (by simpa using h)
  have hm := Nat.mod_lt n (Nat.pow_pos (n := 8 * k) (show 0 < 2 by decide))
  have hdm := Nat.mod_add_div n (2 ^ (8 * k))
  have e2 : be n k = be (n % 2 ^ (8 * k)) k := by
   have := be_mod (n % 2 ^ (8 * k)) k (n / 2 ^ (8 * k))
   rwa [show n % 2 ^ (8 * k) + n / 2 ^ (8 * k) * 2 ^ (8 * k) = n by rw [Nat.mul_comm (n / 2 ^ (8 * k))]; exact hdm] at this
  have ih := numB_be k (n % 2 ^ (8 * k)) hm
  show (be n k).foldl _ (0 * 256 + (UInt8.ofNat (n / 2 ^ (8 * k))).toNat) = n
  rw [fold_eq, e2, be_len, ih, UInt8.toNat_ofNat']
  generalize 2 ^ (8 * k) = Q at *
  rw [Nat.zero_mul, Nat.zero_add, Nat.mod_eq_of_lt (show n / Q < 2 ^ 8 from hq), Nat.mul_comm, Nat.add_comm]
  exact hdm
end Go.Proofs.Ytabdnepfcohncaa.Abs
namespace Go.Proofs.Ytabdnepfcohncaa.Abs
set_option linter.unusedSimpArgs false
set_option linter.unusedVariables false
open Go.RowKit
open Go.Proofs.Ytabdnepfcohncaa.Sim
open Go.ChangeShapes Go.WideShapes Go.Deep
abbrev AR := Value × List Value
def mkP : AR → Option Sim.Place
 | (.slice (some a) n cap, _) => some ⟨a.block, a.off, cap - n⟩
 | _ => none
section
variable {H : Type} {enc : TypeId × Value → H} {P : Program} {w : World} {base : Nat} {spare : Nat → Bool} {held : Bool}
theorem ok_slice {r : Reach} {b0 : Nat} {T e : TypeId} {a : Option Addr} {n c : Nat} (ht : P.underlying T = some (.slice e)) (h : Value.okWide P w r b0 T (.slice a n c)) : (a = none ∧ n = 0 ∧ c = 0) ∨ ∃ b o, a = some ⟨b, o, none⟩ ∧ n ≤ c ∧ b < w.heap.size := by
 simp only [Value.okWide, ht, Cell.okWide, Cell.ok] at h
 cases a with
 | none =>
  cases n <;> cases c <;> simp_all
 | some x =>
  obtain ⟨h1, _, h3⟩ := h
  obtain ⟨_, hs, row, cells, hsh, _⟩ := h3
  obtain ⟨b, o, s⟩ := x
  simp only at hs
  subst hs
  refine .inr ⟨b, o, rfl, h1, ?_⟩
  simp only [World.shape?] at hsh
  rcases Nat.lt_or_ge b w.heap.size with hlt | hge
  ·exact hlt
  ·rw [Array.getElem?_eq_none hge] at hsh; cases hsh
theorem open_slice_fields {t e : TypeId} {fs : Array Field} {fuel : Nat} {cs : List Value} {x : DataW H × List MemPlace} (ht : P.underlying t = some (.slice e)) (he : P.underlying e = some (.struct fs))
  (hone : oneCellFields P fs = true) (hC : P.cellsOf e = fs.size) (h : DataW.trod enc P w base spare held fuel t cs = some x) :
  (cs = [.slice none 0 0] ∧ x = (.nil, [])) ∨
  ∃ (a : Addr) (len cap m : Nat) (D : Nat → DataW H) (Pl : Nat → List MemPlace), cs = [.slice (some a) len cap] ∧ base ≤ a.block ∧ len ≤ cap ∧ cap ≤ maxLen ∧ m = (if spare a.block then cap else len) ∧
   x = (.slice ((List.range len).map D) ((List.range (m - len)).map fun j => D (len + j)), MemPlace.row a (m * fs.size) ++ (List.range m).flatMap Pl) ∧
   ∀ i, i < m → ∃ (ys : List (DataW H × List MemPlace)) (n : Nat), D i = .agg (ys.map (·.1)) ∧ Pl i = ys.flatMap (·.2) ∧ ys.length = fs.size ∧
    ∀ (j : Nat) (f : Field), fs[j]? = some f → ∃ (v : Value) (y : DataW H × List MemPlace), w.cell? (a.add (i * fs.size + j)) = some v ∧ ys[j]? = some y ∧ DataW.trod enc P w base spare held n f.type [v] = some y := by
 rcases open_slice ht h with h0 | ⟨a, len, cap, m, n, D, Pl, hcs, hb, hl, hm, hmm, hx, hi⟩
 ·exact .inl h0
 ·refine .inr ⟨a, len, cap, m, D, Pl, hcs, hb, hl, hm, hmm, by rw [hC] at hx; exact hx, fun i him => ?_⟩
  obtain ⟨cs', hc, ht'⟩ := hi i him
  rw [hC] at hc
  obtain ⟨ys, n', hn', hy, hlen, hyl, hf⟩ := DataW.trod_struct he ht'
  obtain ⟨_, hcl, hat⟩ := World.cells?_some hc
  simp only [Prod.mk.injEq] at hy
  refine ⟨ys, n', hy.1, hy.2, hyl, fun j f hj => ?_⟩
  obtain ⟨ho, hk⟩ := hone_of hone j f hj
  have hjl : j < fs.size := (Array.getElem?_eq_some_iff.1 hj).1
  have hcell := hat j hjl
  have hv : cs'[j]? = some (cs'[j]'(by omega)) := List.getElem?_eq_getElem (by omega)
  have h1 := hf j f hj
  rw [ho, hk] at h1
  have hone' : (cs'.drop j).take 1 = [cs'[j]'(by omega)] := by
   rw [List.drop_eq_getElem_cons (by omega)]
   rfl
  rw [hone'] at h1
  have hys : ys[j]? = some (ys[j]'(by omega)) := List.getElem?_eq_getElem (by omega)
  refine ⟨_, _, ?_, hys, h1.trans hys⟩
  rw [← Go.Deep.add_add, hcell, hv]
end
def plN (bs : List AR) : Pl := fun i => (bs[i]?).bind mkP
def mkV2 (i : Nat) : Value → Value
 | .slice (some ⟨_, _, some k⟩) _ _ => .slice (some ⟨i, 0, some k⟩) 0 0
 | .slice (some ⟨_, _, none⟩) n _ => .slice (some ⟨i, 0, none⟩) n n
 | v => v
def mkB2 : AR → Option Blk
 | (.slice (some _) _ (_ + 1), c) => some { cells := c, kind := .ro }
 | _ => none
def OkB (W : World) (R : Pl) (a : AR) : Prop := g0 a.1 = true ∨ (∃ x, a.1 = .slice (some x) 0 0) ∨
 ∃ b o n cap, a.1 = .slice (some ⟨b, o, none⟩) n (cap + 1) ∧ n ≤ cap + 1 ∧ b < W.heap.size ∧ ∀ j x, a.2[j]? = some x → ∃ x', W.cell? ⟨b, o + j, none⟩ = some x' ∧ Rel R x x'
theorem relN {W : World} {R : Pl} {bs : List AR} {i : Nat} {a : AR} (hi : bs[i]? = some a) (h : OkB W R a) : Rel (plN bs) (mkV2 i a.1) a.1 := by
 obtain ⟨v, c⟩ := a
 rcases h with h1 | ⟨⟨b, o, sp⟩, h1⟩ | ⟨b, o, n, cap, h1, h2, h3, h4⟩
 ·simp only at h1 ⊢
  cases v with
  | slice x n cap => cases x with
   | none => exact g0_rel h1
   | some x => simp [g0] at h1
  | _ => exact g0_rel h1
 ·simp only at h1 ⊢
  subst h1
  cases sp with
  | none =>
   have := Rel.slice (R := plN bs) i 0 0 0 ⟨b, o, 0 - 0⟩ (by simp [plN, hi, mkP]) (Nat.le_refl _)
   simpa [mkV2] using this
  | some k =>
   have := Rel.sliceSpot (R := plN bs) i 0 k ⟨b, o, 0 - 0⟩ (by simp [plN, hi, mkP])
   simpa [mkV2] using this
 ·simp only at h1 ⊢
  subst h1
  have := Rel.slice (R := plN bs) i 0 n n ⟨b, o, cap + 1 - n⟩ (by simp [plN, hi, mkP]) (Nat.le_refl _)
  rw [show n + (cap + 1 - n) = cap + 1 by omega] at this
  simpa [mkV2] using this
def mkVs2 : Nat → List AR → List Value
 | _, [] => []
 | i, a :: l => mkV2 i a.1 :: mkVs2 (i + 1) l
theorem mkVs2_get : ∀ (l : List AR) (i k : Nat), (mkVs2 i l)[k]? = (l[k]?).map fun a => mkV2 (i + k) a.1
 | [], i, k => by simp [mkVs2]
 | a :: l, i, 0 => by simp [mkVs2]
 | a :: l, i, k + 1 => by simp only [mkVs2, List.getElem?_cons_succ, mkVs2_get l (i + 1) k]; congr 1; funext x; congr 1; omega
theorem mkVs2_len : ∀ (l : List AR) (i : Nat), (mkVs2 i l).length = l.length
 | [], _ => rfl
 | a :: l, i => by simp [mkVs2, mkVs2_len l (i + 1)]
theorem mkB2_none {W : World} {R : Pl} {a : AR} {b : Blk} (h : OkB W R a) (hb : mkB2 a = some b) : ∃ bb o n cap, a.1 = .slice (some ⟨bb, o, none⟩) n (cap + 1) ∧ b = { cells := a.2, kind := .ro } ∧ bb < W.heap.size ∧ ∀ j x, a.2[j]? = some x → ∃ x', W.cell? ⟨bb, o + j, none⟩ = some x' ∧ Rel R x x' := by
 obtain ⟨v, c⟩ := a
 rcases h with h1 | ⟨x, h1⟩ | ⟨bb, o, n, cap, h1, h2, h3, h4⟩
 ·simp only at h1
  cases v with
  | slice x n cap => cases x with
   | none => simp [mkB2] at hb
   | some x => simp [g0] at h1
  | _ => simp [mkB2] at hb
 ·simp only at h1
  subst h1
  simp [mkB2] at hb
 ·simp only at h1
  subst h1
  simp only [mkB2, Option.some.injEq] at hb
  exact ⟨bb, o, n, cap, rfl, hb.symm, h3, h4⟩
theorem top_callN {P : Program} {f : FuncId} {W : World} (bs : List AR) (na : Nat) (h : ∀ a ∈ bs, OkB W (plN bs) a) (hc : ACall P f ((mkVs2 0 bs).take na).toArray (bs.map mkB2) (Ret (.bool true) (bs.map mkB2))) :
  Calls P f ((bs.take na).map (·.1)).toArray W fun e w' => e = .returned (.bool true) ∧ Below W.heap.size W w' := by
 have hm : MRep W.heap.size (plN bs) (bs.map mkB2) W := by
  refine ⟨fun i hi => ?_, fun i b hi => ?_, fun i j b c p q hi hj hb _ _ _ _ => ?_⟩
  ·simp only [List.length_map] at hi
   simp [plN, List.getElem?_eq_none hi]
  ·rw [List.getElem?_map] at hi
   cases ha : bs[i]? with
   | none => rw [ha] at hi; cases hi
   | some a =>
    rw [ha] at hi
    simp only [Option.map_some, Option.some.injEq] at hi
    obtain ⟨bb, o, n, cap, h1, rfl, h3, h4⟩ := mkB2_none (h _ (List.mem_of_getElem? ha)) hi
    obtain ⟨v, c⟩ := a
    simp only at h1 h4
    subst h1
    refine ⟨⟨bb, o, cap + 1 - n⟩, by simp [plN, ha, mkP], h3, ?_⟩
    exact ⟨fun e => by simp at e, fun j x hj => h4 j x hj⟩
  ·rw [List.getElem?_map] at hi
   cases ha : bs[i]? with
   | none => rw [ha] at hi; cases hi
   | some a =>
    rw [ha] at hi
    simp only [Option.map_some, Option.some.injEq] at hi
    obtain ⟨bb, o, n, cap, h1, rfl, _⟩ := mkB2_none (h _ (List.mem_of_getElem? ha)) hi
    cases hb
 have hargs : Rels (plN bs) ((mkVs2 0 bs).take na).toArray ((bs.take na).map (·.1)).toArray := by
  refine ⟨by simp [mkVs2_len], fun i hi => ?_⟩
  simp only [List.size_toArray, List.length_take, mkVs2_len] at hi
  have hib : i < bs.length := by omega
  have ha : bs[i]? = some bs[i] := List.getElem?_eq_getElem hib
  have e1 : ((mkVs2 0 bs).take na).toArray.getD i undef = mkV2 i bs[i].1 := by
   simp [mkVs2_get, ha, List.getElem?_take, show i < na by omega]
  have e2 : ((bs.take na).map (·.1)).toArray.getD i undef = bs[i].1 := by simp [List.getElem?_take, show i < na by omega, ha]
  rw [e1, e2]
  exact relN ha (h _ (List.mem_of_getElem? ha))
 refine (hc W.heap.size (plN bs) W _ (Nat.le_refl _) hm hargs).mono ?_
 rintro e w' ⟨v, v', R', m', rfl, k1, k2, rfl, rfl⟩
 cases k1
 exact ⟨rfl, k2.below hm (Nat.le_refl _)⟩
section
variable {H : Type} {enc : TypeId × Value → H} {P : Program} {w : World} {base : Nat} {held : Bool}
theorem cell_some {a : Addr} {v : Value} (h : w.cell? a = some v) : a.spot = none ∧ a.block < w.heap.size := by
 unfold World.cell? at h
 cases hb : w.heap[a.block]? with
 | none => rw [hb] at h; cases h
 | some o =>
  refine ⟨?_, (Array.getElem?_eq_some_iff.1 hb).1⟩
  rw [hb] at h
  cases o with
  | cells c ty fz =>
   simp only at h
   split at h
   ·cases h
   ·rename_i hs
    cases hsp : a.spot with
    | none => rfl
    | some k => rw [hsp] at hs; simp at hs
  | _ => cases h
end
open Go.Proofs
structure Deed where
 kd : Int
 who : Int
 n : Int
 m : Int
 l : List Tr
instance : Inhabited Deed := ⟨⟨0, 0, 0, 0, []⟩⟩
def Deed.cells (x : Deed) (w : Value) : List Value := [.int .i64 x.kd, .int .i64 x.who, .int .i64 x.n, .int .i64 x.m, w]
section
variable {H : Type} {enc : TypeId × Value → H} {P : Program} {w : World} {base : Nat} {held : Bool}
end
end Go.Proofs.Ytabdnepfcohncaa.Abs
namespace Go.Proofs.Ytabdnepfcohncaa.Abs
set_option linter.unusedSimpArgs false
set_option linter.unusedVariables false
open Go.RowKit
open Go.Proofs.Ytabdnepfcohncaa.Sim
open Go.Proofs
theorem BytsAt.of {m : AM} {v : Value} {i : Nat} {l : List UInt8} (hs : Sl v i 0 l.length) (hr : 0 < l.length → RdL m i 0 (by8 l)) : BytsAt m v i 0 l := ⟨hs, fun k hk => by
 obtain ⟨b, q1, q2⟩ := hr (by omega)
 refine ⟨b, q1, q2 k _ ?_⟩
 rw [by8_get hk, List.getD_eq_getElem?_getD, List.getElem?_eq_getElem hk]
 rfl⟩
theorem Sl.one {v : Value} {a o n : Nat} (h : Sl v a o n) : v.oneCell' = true ∧ v.cells = #[v] := by
 rcases h with ⟨rfl, _⟩ | ⟨c, _, rfl⟩ | ⟨_, o', k, rfl⟩ <;> exact ⟨rfl, rfl⟩
theorem postF_take (B : Bk) (l : List Tr) : (postF B (l.take 18)).1 = (postF B l).1 ∧ (postF B (l.take 18)).2.2 = (postF B l).2.2 := by
 by_cases h : l.length ≤ 18
 ·rw [List.take_of_length_le h]; exact ⟨rfl, rfl⟩
 ·have h1 : postB l = false := by
   unfold postB
   rw [show decide (l.length ≤ 16) = false from decide_eq_false (by omega)]
   simp
  have h2 : postB (l.take 18) = false := by
   unfold postB
   rw [List.length_take, show decide (min 18 l.length ≤ 16) = false from decide_eq_false (by omega)]
   simp
  unfold postF
  rw [if_pos h1, if_pos h2]
  exact ⟨rfl, rfl⟩
theorem Built.step {B : Bk} (h : Built B) (l : List Tr) : Built (postF B l).1 := by
 by_cases hz : (postF B l).2.2 = 0
 ·exact .post h hz
 ·have : (postF B l).1 = B := by
   revert hz
   unfold postF
   split
   ·intro _; rfl
   ·split
    ·intro _; rfl
    ·split
     ·intro _; rfl
     ·intro h; exact absurd rfl h
  rw [this]; exact h
theorem postF_bad {B : Bk} {l : List Tr} (h : (postF B l).2.2 ≠ 0) : (postF B l).1 = B ∧ (postF B l).2.1 = 0 := by
 revert h
 unfold postF
 split
 ·intro _; exact ⟨rfl, rfl⟩
 ·split
  ·intro _; exact ⟨rfl, rfl⟩
  ·split
   ·intro _; exact ⟨rfl, rfl⟩
   ·intro h; exact absurd rfl h
theorem postF_num {B : Bk} {l : List Tr} (h : (postF B l).2.2 = 0) : (postF B l).2.1 = ((B.P.length + 1 : Nat) : Int) := by
 revert h
 unfold postF
 split
 ·intro h; exact absurd h (show ¬ ((2 : Int) = 0) by decide)
 ·split
  ·intro h; exact absurd h (show ¬ ((11 : Int) = 0) by decide)
  ·split
   ·intro h; exact absurd h (show ¬ ((5 : Int) = 0) by decide)
   ·intro _; rfl
theorem Post_ok {m : AM} {b0 bk : Nat} {B : Bk} {pv v : Value} {l : List Tr} (h : BookAt m b0 bk B pv) (hl : ∀ M, Fr m M bk pv → Trs M v l) (hb : Bd B.H 1000000000) (hlen : B.P.length ≤ 1000000) (hll : l.length ≤ 1000000) :
  ACall Try.prog 28 #[.pointer (some ⟨bk, 0, none⟩), v] m (fun r M => ∃ u, r = .tuple #[.int .i64 (postF B l).2.1, .int .i64 (postF B l).2.2] ∧ BookAt M b0 bk (postF B l).1 u ∧ Fr m M bk pv ∧ (∀ j, j < m.length → NotOf pv j → NotOf u j) ∧ ((postF B l).1.P.length = 0 → u = pv)) := by
 by_cases hz : (postF B l).2.2 = 0
 ·rw [postF_num hz, hz]
  refine (Post_good h hl hb hlen hz).mono ?_
  rintro r M ⟨u, e1, e2, e3, e4⟩
  refine ⟨u, e1, e2, e3, e4, fun h0 => ?_⟩
  rw [(postF_zero hz).2] at h0
  simp at h0
 ·obtain ⟨e1, e2⟩ := postF_bad hz
  refine (Post_bad h (hl m (Fr.refl _ _ _)) hb hll hz).mono ?_
  rintro r M ⟨rfl, rfl⟩
  rw [e1, e2]
  exact ⟨pv, rfl, h, Fr.refl _ _ _, fun j _ hn => hn, fun _ => rfl⟩
theorem PostsAt.keep {M M' : AM} {b0 xk : Nat} {pv px : Value} {P : List (List Tr)} (h : PostsAt M b0 pv P) (hF : Fr M M' xk px) (hd : ∀ j, NotOf pv j ∨ NotOf px j) (hx : NotOf pv xk) (hs : ∀ a x, Rd M a 0 (.int .i64 x) → a ≠ xk ∧ NotOf px a) : PostsAt M' b0 pv P := by
 obtain ⟨pc, h5, h6⟩ := h
 refine ⟨pc, h5.keep fun j hj hnj => hF.2 j hj (fun e => hnj (e ▸ hx)) ((hd j).resolve_left hnj), fun k hk => ?_⟩
 obtain ⟨u, q1, q2⟩ := h6 k hk
 exact ⟨u, q1, q2.keep hF.1 fun a ha hr => hF.2 a ha (hs a _ hr).1 (hs a _ hr).2⟩
theorem BookAt.other {M M' : AM} {b0 bk b1 xk : Nat} {B : Bk} {P : List (List Tr)} {pv px : Value} (h : BookAt M b0 bk B pv) (hX : RBook M b1 xk P px) (hz : P.length = 0 → px = .slice none 0 0) (hF : Fr M M' xk px) (hd : ∀ j, NotOf pv j ∨ NotOf px j) (hne : bk ≠ xk) (h1 : NotOf pv xk) (h2 : NotOf px bk) : BookAt M' b0 bk B pv :=
 ⟨h.lo, by rw [hF.2 bk h.lt hne h2]; exact h.cells, h.lH, h.lC, PostsAt.keep h.row hF hd h1 fun a x hr => ⟨(hX.sep hr).1 hX.slv, by
  by_cases h0 : P.length = 0
  ·rw [hz h0]; exact NotOf.nil
  ·exact (hX.sep hr).2 (by omega)⟩⟩
theorem RBook.other {M M' : AM} {b0 bk b1 xk : Nat} {B : Bk} {P : List (List Tr)} {pv px : Value} (h : BookAt M b0 bk B pv) (hz : B.P.length = 0 → pv = .slice none 0 0) (hX : RBook M b1 xk P px) (hF : Fr M M' bk pv) (hd : ∀ j, NotOf pv j ∨ NotOf px j) (hne : bk ≠ xk) (h1 : NotOf pv xk) (h2 : NotOf px bk) : RBook M' b1 xk P px :=
 ⟨hX.lo, by rw [hF.2 xk hX.lt (Ne.symm hne) h1]; exact hX.cells, PostsAt.keep hX.posts hF (fun j => (hd j).symm) h2 fun a x hr => ⟨(h.sep hr).1, by
  by_cases h0 : B.P.length = 0
  ·rw [hz h0]; exact NotOf.nil
  ·exact (h.sep hr).2 (by omega)⟩⟩
structure Two (M : AM) (b0 bk xk : Nat) (B : Bk) (pv px : Value) : Prop where
 b : BookAt M b0 bk B pv
 x : RBook M b0 xk B.P px
 ne : bk ≠ xk
 dis : ∀ j, NotOf pv j ∨ NotOf px j
 n1 : NotOf pv xk
 n2 : NotOf px bk
 z1 : B.P.length = 0 → pv = .slice none 0 0
 z2 : B.P.length = 0 → px = .slice none 0 0
theorem Two.old {M : AM} {b0 bk xk : Nat} {B : Bk} {pv px : Value} (h : Two M b0 bk xk B pv px) (T : AM) : Two (M ++ T) b0 bk xk B pv px := ⟨h.b.old T, h.x.old T, h.ne, h.dis, h.n1, h.n2, h.z1, h.z2⟩
theorem Two.bfar {M : AM} {b0 bk xk : Nat} {B : Bk} {pv px : Value} (h : Two M b0 bk xk B pv px) (j : Nat) : (j < M.length ∨ NotOf pv j) ∧ (j < M.length ∨ NotOf px j) := by
 obtain ⟨pc, q1, _⟩ := h.b.row
 obtain ⟨pd, q2, _⟩ := h.x.posts
 by_cases hj : j < M.length
 ·exact ⟨.inl hj, .inl hj⟩
 ·exact ⟨.inr (q1.far (by omega)), .inr (q2.far (by omega))⟩
theorem Two.step {M M1 M2 : AM} {b0 bk xk : Nat} {B B' : Bk} {P' : List (List Tr)} {pv px pv' px' : Value} (h : Two M b0 bk xk B pv px) (hb : BookAt M1 b0 bk B' pv') (hF1 : Fr M M1 bk pv) (hn1 : ∀ j, j < M.length → NotOf pv j → NotOf pv' j) (hz1 : B'.P.length = 0 → pv' = pv)
  (hx : RBook M2 b0 xk P' px') (hF2 : Fr M1 M2 xk px) (hn2 : ∀ j, j < M1.length → NotOf px j → NotOf px' j) (hz2 : P'.length = 0 → px' = px) (eP : P' = B'.P) (hP : B'.P.length = 0 → B.P.length = 0) : Two M2 b0 bk xk B' pv' px' := by
 subst eP
 have hx1 := RBook.other h.b h.z1 h.x hF1 h.dis h.ne h.n1 h.n2
 have hl := h.x.lt
 have hl1 := h.b.lt
 have hLL := hF1.1
 have hb2 : BookAt M2 b0 bk B' pv' := BookAt.other hb hx1 h.z2 hF2 (fun j => by
  rcases h.dis j with hj | hj
  ·by_cases hlt : j < M.length
   ·exact .inl (hn1 j hlt hj)
   ·exact .inr ((h.bfar j).2.resolve_left hlt)
  ·exact .inr hj) h.ne (hn1 _ hl h.n1) h.n2
 refine ⟨hb2, hx, h.ne, fun j => ?_, hn1 _ hl h.n1, hn2 _ (by omega) h.n2, fun e => by rw [hz1 e]; exact h.z1 (hP e), fun e => by rw [hz2 e]; exact h.z2 (hP e)⟩
 by_cases h1 : j < M.length
 ·rcases h.dis j with hj | hj
  ·exact .inl (hn1 j h1 hj)
  ·exact .inr (hn2 j (by omega) hj)
 ·by_cases h2 : j < M1.length
  ·exact .inr (hn2 j h2 ((h.bfar j).2.resolve_left h1))
  ·obtain ⟨pc, q1, _⟩ := hb.row
   exact .inl (q1.far (by omega))
theorem Two.low {M : AM} {b0 bk xk : Nat} {B : Bk} {pv px : Value} (h : Two M b0 bk xk B pv px) {j : Nat} (hj : j < b0) : j ≠ bk ∧ j ≠ xk ∧ NotOf pv j ∧ NotOf px j := by
 obtain ⟨pc, q1, _⟩ := h.b.row
 obtain ⟨pd, q2, _⟩ := h.x.posts
 have := h.b.lo
 have := h.x.lo
 exact ⟨by omega, by omega, NotOf.row q1 hj, NotOf.row q2 hj⟩
theorem Deed.one {x : Deed} {w : Value} {a o n : Nat} (h : Sl w a o n) : (Value.agg (x.cells w).toArray).cells.all (·.oneCell') = true := by
 rcases h with ⟨rfl, _⟩ | ⟨c, _, rfl⟩ | ⟨_, o', k, rfl⟩ <;> simp [Deed.cells, Value.cells, Value.oneCell']
theorem AW.midX {P : Program} {nt : Nat} {m m0 : AM} {t : Fm} {c : Code} {Q : AEx → Fm → AM → Prop} (id : Nat) (Mid : Fm → AM → Prop) (h : AW P nt m0 c t m (fun e t' m' => e = .exit id ∧ Mid t' m')) (h2 : ∀ t' m', Mid t' m' → Q (.exit id) t' m') : AW P nt m0 c t m Q :=
 h.mono fun e t' m' ⟨e1, e2⟩ => by subst e1; exact h2 _ _ e2
open Classical in
noncomputable def vw (S : Nat → Prop) (m : AM) : AM := m.mapIdx fun i b => if S i then b else none
theorem vw_len (S : Nat → Prop) (m : AM) : (vw S m).length = m.length := by simp [vw]
theorem vw_in {S : Nat → Prop} {m : AM} {i : Nat} (h : S i) : (vw S m)[i]? = m[i]? := by
 simp only [vw, List.getElem?_mapIdx, if_pos h]
 cases m[i]? <;> rfl
theorem vw_out {S : Nat → Prop} {m : AM} {i : Nat} (h : ¬ S i) (hi : i < m.length) : (vw S m)[i]? = some none := by
 simp only [vw, List.getElem?_mapIdx, if_neg h, List.getElem?_eq_getElem hi]
 rfl
theorem vw_some {S : Nat → Prop} {m : AM} {i : Nat} {b : Blk} : (vw S m)[i]? = some (some b) ↔ S i ∧ m[i]? = some (some b) := by
 by_cases h : S i
 ·rw [vw_in h]; exact ⟨fun e => ⟨h, e⟩, fun e => e.2⟩
 ·constructor
  ·intro e
   have hl := (List.getElem?_eq_some_iff.1 e).1
   rw [vw_len] at hl
   rw [vw_out h hl] at e
   cases e
  ·intro e; exact absurd e.1 h
structure Sub (m m' : AM) : Prop where
 len : m.length ≤ m'.length
 get : ∀ (i : Nat) (b : Blk), m[i]? = some (some b) → m'[i]? = some (some b)
theorem Sub.refl (m : AM) : Sub m m := ⟨Nat.le_refl _, fun _ _ h => h⟩
theorem Sub.trans {a b c : AM} (h : Sub a b) (k : Sub b c) : Sub a c := ⟨Nat.le_trans h.len k.len, fun i x hx => k.get i x (h.get i x hx)⟩
theorem Sub.vw (S : Nat → Prop) (m : AM) : Sub (vw S m) m := ⟨by rw [vw_len]; exact Nat.le_refl _, fun i b h => (vw_some.1 h).2⟩
theorem Sub.app (m N : AM) : Sub m (m ++ N) := ⟨by rw [List.length_append]; omega, fun i b h => get_old N h⟩
theorem MRep.vw {base : Nat} {R : Pl} {m : AM} {w : World} (h : MRep base R m w) (S : Nat → Prop) : MRep base R (Abs.vw S m) w :=
 ⟨fun i hi => h.none_ i (by rwa [vw_len] at hi), fun i b hb => h.rep i b (vw_some.1 hb).2, fun i j b c p q hi hj => h.apart i j b c p q (vw_some.1 hi).2 (vw_some.1 hj).2⟩
open Classical in
noncomputable def glue (S : Nat → Prop) (m M' : AM) : AM := (List.range (max m.length M'.length)).map fun i =>
 if i < m.length ∧ ¬ S i then m.getD i none else match M'.getD i none with
  | some b => if b.kind.mine = true ∨ m[i]? = some (some b) then some b else none
  | none => none
theorem glue_len (S : Nat → Prop) (m M' : AM) : (glue S m M').length = max m.length M'.length := by simp [glue]
theorem glue_out {S : Nat → Prop} {m M' : AM} {i : Nat} (hi : i < m.length) (h : ¬ S i) : (glue S m M')[i]? = m[i]? := by
 unfold glue
 rw [List.getElem?_map, List.getElem?_range (by omega), Option.map_some, if_pos ⟨hi, h⟩, List.getElem?_eq_getElem hi, List.getD_eq_getElem?_getD, List.getElem?_eq_getElem hi]
 rfl
open Classical in
theorem glue_some {S : Nat → Prop} {m M' : AM} {i : Nat} {b : Blk} : (glue S m M')[i]? = some (some b) ↔ (i < m.length ∧ ¬ S i ∧ m[i]? = some (some b)) ∨ (¬ (i < m.length ∧ ¬ S i) ∧ M'[i]? = some (some b) ∧ (b.kind.mine = true ∨ m[i]? = some (some b))) := by
 by_cases h : i < m.length ∧ ¬ S i
 ·rw [glue_out h.1 h.2]
  exact ⟨fun e => .inl ⟨h.1, h.2, e⟩, fun e => by
   rcases e with e | e
   ·exact e.2.2
   ·exact absurd h e.1⟩
 ·have key : ∀ (hi : i < max m.length M'.length), (glue S m M')[i]? = some (match M'.getD i none with
    | some b => if b.kind.mine = true ∨ m[i]? = some (some b) then some b else none
    | none => none) := fun hi => by
   unfold glue
   rw [List.getElem?_map, List.getElem?_range hi, Option.map_some, if_neg h]
  constructor
  ·intro e
   have hl := (List.getElem?_eq_some_iff.1 e).1
   rw [glue_len] at hl
   rw [key hl] at e
   injection e with e
   split at e
   ·rename_i c hc
    split at e
    ·rename_i hq
     injection e with e
     subst e
     refine .inr ⟨h, ?_, hq⟩
     rw [List.getD_eq_getElem?_getD] at hc
     cases hx : M'[i]? with
     | none => rw [hx] at hc; cases hc
     | some y => rw [hx] at hc; simp only [Option.getD_some] at hc; rw [hc]
    ·cases e
   ·cases e
  ·rintro (e | ⟨_, e1, e2⟩)
   ·exact absurd ⟨e.1, e.2.1⟩ h
   ·have hl := (List.getElem?_eq_some_iff.1 e1).1
    rw [key (by omega)]
    have : M'.getD i none = some b := by rw [List.getD_eq_getElem?_getD, e1]; rfl
    rw [this]
    simp only
    rw [if_pos e2]
theorem Owned.vw {S : Nat → Prop} {m : AM} {R : Pl} {k : Nat} (h : Owned (Abs.vw S m) R k) : ∃ (i : Nat) (b : Blk) (p : Sim.Place), S i ∧ m[i]? = some (some b) ∧ b.kind.mine = true ∧ R i = some p ∧ p.block = k := by
 obtain ⟨i, b, p, h1, h2, h3, h4⟩ := h
 exact ⟨i, b, p, (vw_some.1 h1).1, (vw_some.1 h1).2, h2, h3, h4⟩
theorem mine_edge {k : Kind} (h : k.mine = true) : k ≠ .edge := by rintro rfl; cases h
theorem Post.glue {base : Nat} {S : Nat → Prop} {m M' : AM} {R R' : Pl} {w w' : World} (hm : MRep base R m w) (h : Post base (vw S m) M' R R' w w') : Post base m (Abs.glue S m M') R R' w w' := by
 have old : ∀ (i : Nat) (b : Blk) (p : Sim.Place), m[i]? = some (some b) → R' i = some p → R i = some p ∧ BRep base R b p w := fun i b p hb hp => by
  obtain ⟨q, q1, q2⟩ := hm.rep i b hb
  have := h.le i q q1
  rw [hp] at this
  injection this with this
  subst this
  exact ⟨q1, q2⟩
 refine ⟨h.le, ⟨fun i hi => h.rep.none_ i (by rw [glue_len] at hi; omega), fun i b hb => ?_, fun i j b c p q hi hj hbm hce hne hRi hRj => ?_⟩, h.os, h.tape, h.output, h.size, fun k hk ho => h.keep k hk fun ho' => ?_, fun k ho => ?_⟩
 ·rcases glue_some.1 hb with ⟨h1, h2, h3⟩ | ⟨_, h2, _⟩
  ·obtain ⟨p, q1, q2⟩ := hm.rep i b h3
   refine ⟨p, h.le i p q1, ?_⟩
   by_cases hek : b.kind = .edge
   ·unfold BRep at q2 ⊢
    rw [hek] at q2 ⊢
    exact ⟨by have := h.size; omega, q2.2⟩
   refine (q2.mono h.le).kept (h.keep p.block q2.lt fun ho => ?_)
   obtain ⟨i', b', p', o1, o2, o3, o4, o5⟩ := Owned.vw ho
   exact hm.apart i' i b' b p' p o2 h3 o3 hek (fun e => h2 (e ▸ o1)) o4 q1 o5
  ·exact h.rep.rep i b h2
 ·rcases glue_some.1 hi with ⟨a1, a2, a3⟩ | ⟨a1, a2, a3⟩ <;> rcases glue_some.1 hj with ⟨c1, c2, c3⟩ | ⟨c1, c2, c3⟩
  ·exact hm.apart i j b c p q a3 c3 hbm hce hne (old i b p a3 hRi).1 (old j c q c3 hRj).1
  ·rcases c3 with c3 | c3
   ·rcases h.sub q.block ⟨j, c, q, c2, c3, hRj, rfl⟩ with hz | ho
    ·have := (old i b p a3 hRi).2.lt; omega
    ·obtain ⟨j', c', q', o1, o2, o3, o4, o5⟩ := Owned.vw ho
     rw [← o5]
     exact hm.apart i j' b c' p q' a3 o2 hbm (mine_edge o3) (fun e => a2 (e ▸ o1)) (old i b p a3 hRi).1 o4
   ·exact hm.apart i j b c p q a3 c3 hbm hce hne (old i b p a3 hRi).1 (old j c q c3 hRj).1
  ·rcases h.sub p.block ⟨i, b, p, a2, hbm, hRi, rfl⟩ with hz | ho
   ·have := (old j c q c3 hRj).2.lt; omega
   ·obtain ⟨i', b', p', o1, o2, o3, o4, o5⟩ := Owned.vw ho
    rw [← o5]
    exact hm.apart i' j b' c p' q o2 c3 o3 hce (fun e => c2 (e ▸ o1)) o4 (old j c q c3 hRj).1
  ·exact h.rep.apart i j b c p q a2 c2 hbm hce hne hRi hRj
 ·obtain ⟨i', b', p', o1, o2, o3, o4, o5⟩ := Owned.vw ho'
  exact ho ⟨i', b', p', o2, o3, o4, o5⟩
 ·obtain ⟨i, b, p, h1, h2, h3, h4⟩ := ho
  rcases glue_some.1 h1 with ⟨_, _, a3⟩ | ⟨_, a2, _⟩
  ·exact .inr ⟨i, b, p, a3, h2, (old i b p a3 h3).1, h4⟩
  ·rcases h.sub k ⟨i, b, p, a2, h2, h3, h4⟩ with hz | ho
   ·exact .inl hz
   ·obtain ⟨i', b', p', o1, o2, o3, o4, o5⟩ := Owned.vw ho
    exact .inr ⟨i', b', p', o2, o3, o4, o5⟩
structure Fra (S : Nat → Prop) (m M' M : AM) : Prop where
 len : m.length ≤ M.length
 le : M'.length ≤ M.length
 out : ∀ i, i < m.length → ¬ S i → M[i]? = m[i]?
 get : ∀ (i : Nat) (b : Blk), (i < m.length → S i) → M'[i]? = some (some b) → b.kind.mine = true ∨ m[i]? = some (some b) → M[i]? = some (some b)
theorem Fra.of_glue (S : Nat → Prop) (m M' : AM) : Fra S m M' (glue S m M') :=
 ⟨by rw [glue_len]; omega, by rw [glue_len]; omega, fun i hi hs => glue_out hi hs, fun i b h1 h2 h3 => glue_some.2 (.inr ⟨fun e => e.2 (h1 e.1), h2, h3⟩)⟩
theorem ACall.frame {P : Program} {f : FuncId} {args : Array Value} {m : AM} {Q : Value → AM → Prop} (S : Nat → Prop) (h : ACall P f args (vw S m) Q) :
  ACall P f args m (fun v M => ∃ M', Q v M' ∧ Fra S m M' M) := by
 intro base R w args' hb hm hargs
 refine (h base R w args' hb (MRep.vw hm S) hargs).mono ?_
 rintro e w' ⟨v, v', R', m', h1, h2, h3, h4⟩
 exact ⟨v, v', R', _, h1, h2, Post.glue hm h3, m', h4, Fra.of_glue S m m'⟩
structure MSub (m m' : AM) : Prop where
 len : m.length ≤ m'.length
 get : ∀ (i : Nat) (b : Blk), b.kind.mine = true → m[i]? = some (some b) → m'[i]? = some (some b)
theorem Sub.m {a b : AM} (h : Sub a b) : MSub a b := ⟨h.len, fun i x _ hx => h.get i x hx⟩
theorem MSub.refl (m : AM) : MSub m m := (Sub.refl m).m
theorem MSub.trans {a b c : AM} (h : MSub a b) (k : MSub b c) : MSub a c := ⟨Nat.le_trans h.len k.len, fun i x hm hx => k.get i x hm (h.get i x hm hx)⟩
def ext (S : Nat → Prop) (m : AM) : Nat → Prop := fun i => S i ∨ m.length ≤ i
theorem Fra.msub {S : Nat → Prop} {m M' M : AM} (h : Fra S m M' M) (hc : ∀ i, i < m.length → ¬ S i → M'[i]? = some none) : MSub M' (vw (ext S m) M) := by
 refine ⟨by rw [vw_len]; exact h.le, fun i b hb hi => ?_⟩
 have hs : i < m.length → S i := fun hl => by
  by_cases e : S i
  ·exact e
  ·rw [hc i hl e] at hi; cases hi
 refine vw_some.2 ⟨?_, h.get i b hs hi (.inl hb)⟩
 by_cases hl : i < m.length
 ·exact .inl (hs hl)
 ·exact .inr (by omega)
theorem Fra.other {S T : Nat → Prop} {m M' M : AM} (h : Fra S m M' M) (hd : ∀ i, T i → i < m.length → ¬ S i) : Sub (vw T m) (vw T M) := by
 refine ⟨by rw [vw_len, vw_len]; exact h.len, fun i b hi => ?_⟩
 obtain ⟨h1, h2⟩ := vw_some.1 hi
 have hl := (List.getElem?_eq_some_iff.1 h2).1
 exact vw_some.2 ⟨h1, by rw [h.out i hl (hd i h1 hl)]; exact h2⟩
structure Keep (D : Nat → Prop) (m M : AM) : Prop where
 len : m.length ≤ M.length
 get : ∀ j, j < m.length → ¬ D j → M[j]? = m[j]?
theorem Keep.clean {D S : Nat → Prop} {m M : AM} (h : Keep D (vw S m) M) (hd : ∀ i, D i → S i) : ∀ i, i < m.length → ¬ S i → M[i]? = some none := fun i hi hs => by
 rw [h.get i (by rw [vw_len]; exact hi) (fun e => hs (hd i e)), vw_out hs hi]
theorem Keep.refl (D : Nat → Prop) (m : AM) : Keep D m m := ⟨Nat.le_refl _, fun _ _ _ => rfl⟩
theorem Keep.trans {D E : Nat → Prop} {a b c : AM} (h : Keep D a b) (k : Keep E b c) (he : ∀ j, j < a.length → E j → D j) : Keep D a c :=
 ⟨Nat.le_trans h.len k.len, fun j hj hd => by rw [k.get j (by have := h.len; omega) (fun e => hd (he j hj e)), h.get j hj hd]⟩
theorem Keep.mono {D E : Nat → Prop} {a b : AM} (h : Keep D a b) (he : ∀ j, D j → E j) : Keep E a b := ⟨h.len, fun j hj hd => h.get j hj fun e => hd (he j e)⟩
theorem Keep.app (D : Nat → Prop) (m N : AM) : Keep D m (m ++ N) := ⟨by rw [List.length_append]; omega, fun j hj _ => List.getElem?_append_left hj⟩
theorem Row.msub {M M' : AM} {b0 s : Nat} {u : Value} {c : List Value} {n : Nat} (h : Row M b0 s u c n) (hs : MSub M M') : Row M' b0 s u c n := by
 rcases h with h | ⟨a, kd, sz, h1, h2, h3, h4, h5⟩
 ·exact .inl h
 ·exact .inr ⟨a, kd, sz, h1, h2, hs.get a _ (by rcases h5 with rfl | ⟨rfl, _⟩ <;> rfl) h3, h4, h5⟩
theorem PostAt.msub {M M' : AM} {b0 : Nat} {u : Value} {l : List Tr} (h : PostAt M b0 u l) (hs : MSub M M') : PostAt M' b0 u l := by
 obtain ⟨a, h1, h2, h3, ⟨b, h4, h5, h6⟩, h7⟩ := h
 exact ⟨a, h1, by have := hs.len; omega, h3, ⟨b, hs.get a b h5 h4, h5, h6⟩, h7⟩
theorem BookAt.msub {M M' : AM} {b0 bk : Nat} {B : Bk} {pv : Value} (h : BookAt M b0 bk B pv) (hs : MSub M M') : BookAt M' b0 bk B pv := by
 obtain ⟨h1, h2, h3, h4, pc, h5, h6⟩ := h
 refine ⟨h1, hs.get _ _ rfl h2, h3, h4, pc, h5.msub hs, fun k hk => ?_⟩
 obtain ⟨u, k1, k2⟩ := h6 k hk
 exact ⟨u, k1, k2.msub hs⟩
theorem RBook.msub {M M' : AM} {b0 xk : Nat} {P : List (List Tr)} {pv : Value} (h : RBook M b0 xk P pv) (hs : MSub M M') : RBook M' b0 xk P pv := by
 obtain ⟨h1, h2, pc, h5, h6⟩ := h
 refine ⟨h1, hs.get _ _ rfl h2, pc, h5.msub hs, fun k hk => ?_⟩
 obtain ⟨u, k1, k2⟩ := h6 k hk
 exact ⟨u, k1, k2.msub hs⟩
theorem Trs.sub {M M' : AM} {v : Value} {l : List Tr} (h : Trs M v l) (hs : Sub M M') : Trs M' v l := by
 obtain ⟨a, o, h1, h2, h3⟩ := h
 refine ⟨a, o, h1, by have := hs.len; omega, fun k hk => ?_⟩
 obtain ⟨b, q1, q2⟩ := h3 k hk
 exact ⟨b, hs.get a b q1, q2⟩
def bkD (bk : Nat) (pv : Value) : Nat → Prop := fun j => j = bk ∨ ¬ NotOf pv j
theorem Fr.keep {m M : AM} {bk : Nat} {pv : Value} (h : Fr m M bk pv) : Keep (bkD bk pv) m M := ⟨h.1, fun j hj hd => by
 have h1 : j ≠ bk := fun e => hd (.inl e)
 have h2 : NotOf pv j := Classical.byContradiction fun e => hd (.inr e)
 exact h.2 j hj h1 h2⟩
theorem Row.at_ {M : AM} {b0 s : Nat} {u : Value} {c : List Value} {n j : Nat} (h : Row M b0 s u c n) (hj : ¬ NotOf u j) : ∃ b, M[j]? = some (some b) := by
 rcases h with ⟨rfl, _⟩ | ⟨a, kd, sz, _, rfl, h3, _⟩
 ·exact absurd NotOf.nil hj
 ·by_cases e : j = a
  ·subst e; exact ⟨_, h3⟩
  ·exact absurd (fun n' c' e' => by simp only [Value.slice.injEq, Option.some.injEq, Addr.mk.injEq] at e'; exact e e'.1.1.symm) hj
theorem BookAt.in_ {S : Nat → Prop} {M : AM} {b0 bk : Nat} {B : Bk} {pv : Value} (h : BookAt (vw S M) b0 bk B pv) : ∀ i, bkD bk pv i → S i := fun i hi => by
 rcases hi with rfl | hi
 ·exact (vw_some.1 h.cells).1
 ·obtain ⟨pc, h5, _⟩ := h.row
  obtain ⟨b, hb⟩ := h5.at_ hi
  exact (vw_some.1 hb).1
theorem RBook.in_ {S : Nat → Prop} {M : AM} {b0 bk : Nat} {P : List (List Tr)} {pv : Value} (h : RBook (vw S M) b0 bk P pv) : ∀ i, bkD bk pv i → S i := fun i hi => by
 rcases hi with rfl | hi
 ·exact (vw_some.1 h.cells).1
 ·obtain ⟨pc, h5, _⟩ := h.posts
  obtain ⟨b, hb⟩ := h5.at_ hi
  exact (vw_some.1 hb).1
def NotB (u : Value) (j : Nat) : Prop := ∀ o n c, u ≠ .slice (some ⟨j, o, none⟩) n c
theorem NotB.nil {j : Nat} : NotB (.slice none 0 0) j := fun o n c e => by
 simp only [Value.slice.injEq] at e; cases e.1
theorem NotB.of {u : Value} {j : Nat} (h : NotB u j) : NotOf u j := fun n c => h 0 n c
theorem NotB.ne {a j o n c : Nat} (h : j ≠ a) : NotB (.slice (some ⟨a, o, none⟩) n c) j := by
 intro o' n' c' e
 simp only [Value.slice.injEq, Option.some.injEq, Addr.mk.injEq] at e
 omega
theorem NotB.row {M : AM} {b0 s : Nat} {u : Value} {c : List Value} {n j : Nat} (h : Row M b0 s u c n) (hn : NotOf u j) : NotB u j := by
 rcases h with ⟨rfl, _⟩ | ⟨a, kd, sz, _, rfl, _⟩
 ·exact .nil
 ·exact .ne fun e => hn n n (by rw [e])
def Seg (M : AM) (b0 s : Nat) (u : Value) (c : List Value) (n : Nat) : Prop :=
 (u = .slice none 0 0 ∧ c = [] ∧ n = 0) ∨ ∃ (a o : Nat) (kd : Kind) (sz : Nat) (cs : List Value), b0 ≤ a ∧ u = .slice (some ⟨a, o, none⟩) n n ∧ M[a]? = some (some { cells := cs, kind := kd, size := sz }) ∧ (cs.drop o).take (n * s) = c ∧ o + n * s ≤ cs.length ∧ (kd = .own ∨ kd = .grow ∧ sz = s ∧ o + n * s = cs.length)
theorem Row.seg {M : AM} {b0 s : Nat} {u : Value} {c : List Value} {n : Nat} (h : Row M b0 s u c n) : Seg M b0 s u c n := by
 rcases h with h | ⟨a, kd, sz, h1, h2, h3, h4, h5⟩
 ·exact .inl h
 ·refine .inr ⟨a, 0, kd, sz, c, h1, h2, h3, by rw [List.drop_zero, List.take_of_length_le (by omega)], by omega, ?_⟩
  rcases h5 with h5 | ⟨h5, h6⟩
  ·exact .inl h5
  ·exact .inr ⟨h5, h6, by omega⟩
theorem Seg.nil {M : AM} {b0 s : Nat} : Seg M b0 s (.slice none 0 0) [] 0 := .inl ⟨rfl, rfl, rfl⟩
theorem Seg.len {M : AM} {b0 s : Nat} {u : Value} {c : List Value} {n : Nat} (h : Seg M b0 s u c n) : c.length = n * s := by
 rcases h with ⟨_, rfl, rfl⟩ | ⟨a, o, kd, sz, cs, h1, h2, h3, h4, h5, h6⟩
 ·simp
 ·rw [← h4, List.length_take, List.length_drop]; omega
theorem Seg.keep {M M' : AM} {b0 s : Nat} {u : Value} {c : List Value} {n : Nat} (h : Seg M b0 s u c n) (hk : ∀ j b, M[j]? = some (some b) → ¬ NotB u j → b.kind.mine = true → M'[j]? = some (some b)) : Seg M' b0 s u c n := by
 rcases h with h | ⟨a, o, kd, sz, cs, h1, h2, h3, h4⟩
 ·exact .inl h
 ·refine .inr ⟨a, o, kd, sz, cs, h1, h2, hk a _ h3 (fun hn => hn _ _ _ h2) ?_, h4⟩
  rcases h4.2.2 with rfl | ⟨rfl, _⟩ <;> rfl
theorem Seg.msub {M M' : AM} {b0 s : Nat} {u : Value} {c : List Value} {n : Nat} (h : Seg M b0 s u c n) (hs : MSub M M') : Seg M' b0 s u c n := h.keep fun j b hb _ hm => hs.get j b hm hb
theorem Seg.old {M : AM} {b0 s : Nat} {u : Value} {c : List Value} {n : Nat} (h : Seg M b0 s u c n) (T : AM) : Seg (M ++ T) b0 s u c n := h.msub (Sub.app M T).m
theorem Seg.sl {M : AM} {b0 s : Nat} {u : Value} {c : List Value} {n : Nat} (h : Seg M b0 s u c n) (hM : 0 < M.length) : ∃ a o, Sl u a o n ∧ a < M.length ∧ (0 < n → RdL M a o c) := by
 rcases h with ⟨rfl, rfl, rfl⟩ | ⟨a, o, kd, sz, cs, h1, rfl, h3, h4, h5, h6⟩
 ·exact ⟨0, 0, .inl ⟨rfl, rfl⟩, hM, fun h => absurd h (by omega)⟩
 ·refine ⟨a, o, Sl.mk (Nat.le_refl _), (List.getElem?_eq_some_iff.1 h3).1, fun _ => ⟨_, h3, fun j v hj => ?_⟩⟩
  have hl := (List.getElem?_eq_some_iff.1 hj).1
  rw [← h4, List.length_take] at hl
  rw [← h4, List.getElem?_take, if_pos (by omega), List.getElem?_drop] at hj
  exact hj
theorem Seg.at_ {M : AM} {b0 s : Nat} {u : Value} {c : List Value} {n j : Nat} (h : Seg M b0 s u c n) (hj : ¬ NotB u j) : b0 ≤ j ∧ ∃ b, M[j]? = some (some b) ∧ b.kind.mine = true := by
 rcases h with ⟨rfl, _⟩ | ⟨a, o, kd, sz, cs, h1, rfl, h3, h4, h5, h6⟩
 ·exact absurd NotB.nil hj
 ·by_cases e : j = a
  ·subst e; exact ⟨h1, _, h3, by rcases h6 with rfl | ⟨rfl, _⟩ <;> rfl⟩
  ·exact absurd (NotB.ne e) hj
theorem Seg.vw {S : Nat → Prop} {M : AM} {b0 s : Nat} {u : Value} {c : List Value} {n : Nat} (h : Seg M b0 s u c n) (hS : ∀ j, ¬ NotB u j → S j) : Seg (Abs.vw S M) b0 s u c n := h.keep fun j b hb hn _ => vw_some.2 ⟨hS j hn, hb⟩
theorem Post.own {base : Nat} {R : Pl} {m : AM} {w : World} (h : MRep base R m w) {a s : Nat} {c : List Value} {q : Sim.Place} (ha : m[a]? = some (some { cells := c, kind := .grow, size := s })) (hq : R a = some q) (he : q.extra = 0) : Post base m (m.set a (some { cells := c, kind := .own, size := s })) R R w w := by
 have hal := (List.getElem?_eq_some_iff.1 ha).1
 have old : ∀ (i : Nat) (d : Blk), i ≠ a → (m.set a (some { cells := c, kind := .own, size := s }))[i]? = some (some d) → m[i]? = some (some d) := by
  intro i d hne hi
  rwa [List.getElem?_set_ne (Ne.symm hne)] at hi
 have new : ∀ (d : Blk), (m.set a (some { cells := c, kind := .own, size := s }))[a]? = some (some d) → d = { cells := c, kind := .own, size := s } := by
  intro d hi
  rw [List.getElem?_set_self hal] at hi
  injection hi with hi; injection hi with hi; exact hi.symm
 have back : ∀ (i : Nat) (d : Blk), (m.set a (some { cells := c, kind := .own, size := s }))[i]? = some (some d) → ∃ d', m[i]? = some (some d') ∧ d'.kind.mine = d.kind.mine ∧ (d'.kind = .edge ↔ d.kind = .edge) := fun i d hi => by
  by_cases e : i = a
  ·subst e; obtain rfl := new d hi; exact ⟨_, ha, rfl, by simp⟩
  ·exact ⟨d, old i d e hi, rfl, Iff.rfl⟩
 refine ⟨.refl R, ⟨fun j hj => h.none_ j (by simpa using hj), fun j d hj => ?_, fun i j bi bj pi pj hi hj hbi hbj hij hpi hpj => ?_⟩, rfl, rfl, rfl, Nat.le_refl _, fun _ _ _ => rfl, fun k ho => .inr ?_⟩
 ·by_cases hja : j = a
  ·subst hja
   obtain rfl := new d hj
   obtain ⟨p, q1, q2⟩ := h.rep j _ ha
   rw [hq] at q1
   injection q1 with q1
   subst q1
   refine ⟨q, hq, q2.lt, ?_⟩
   obtain ⟨_, cur, ty, r1, r2, r3, _, r5⟩ := q2
   exact ⟨cur, ty, r1, r2, r3, fun _ => he, r5⟩
  ·exact h.rep j d (old j d hja hj)
 ·obtain ⟨di, i1, i2, i3⟩ := back i bi hi
  obtain ⟨dj, j1, j2, j3⟩ := back j bj hj
  exact h.apart i j di dj pi pj i1 j1 (by rw [i2]; exact hbi) (fun e => hbj (j3.1 e)) hij hpi hpj
 ·obtain ⟨i, b, p, h1, h2, h3, h4⟩ := ho
  obtain ⟨d, i1, i2, _⟩ := back i b h1
  exact ⟨i, d, p, i1, by rw [i2]; exact h2, h3, h4⟩
def RdS (m m' : AM) : Prop := ∀ a k v, Rd m a k v → Rd m' a k v
theorem RdS.app (m T : AM) : RdS m (m ++ T) := fun a k v h => Rd.old T h
theorem RdS.refl (m : AM) : RdS m m := fun _ _ _ h => h
section
variable {P : Program} {nt : Nat} {ops : Array Oper} {t : Fm} {m : AM} {K : Fm → AM → Prop} {d T : Nat} {p : String} {af : Array Edge}
theorem Step.slPart {x y z : Operand} {X e s a o n c l h : Nat} {i j : Int} {k1 k2 : IntKind} (hx : evo t x = some (.slice (some ⟨a, o, none⟩) n c)) (hy : evo t y = some (.int k1 i)) (hz : evo t z = some (.int k2 j)) (hi : i = ((l : Nat) : Int)) (hj : j = ((h : Nat) : Int)) (hl : l ≤ h) (hh : h ≤ c) (hlc : l < c) (hX : P.underlying X = some (.slice e)) (hsz : szB P e = some s)
  (hlt : Nat.blt d nt = true) (hK : K (put t d (.slice (some ⟨a, o + l * s, none⟩) (h - l) (c - l))) m) : Step P nt ops ⟨some d, .slice X x (some y) (some z) none, T, p, af, none⟩ t m K := by
 subst hi hj
 refine .q (v := .slice (some ⟨a, o + l * s, none⟩) (h - l) (c - l)) rfl rfl hlt ?_ ?_ hK
 ·simp [Op.operands, hx, hy, hz]
 ·have b2 : bnd 0 (some (evD t y)) = some l := by rw [evD_of hy]; simp [bnd]
  have b3 : bnd n (some (evD t z)) = some h := by rw [evD_of hz]; simp [bnd]
  simp only [aquiet, evD_of hx, aslice0, hX, hsz, Option.map_some, b2, b3]
  rw [if_pos ⟨hl, hh, .inl hlc⟩]
theorem Step.tailN {x y : Operand} {X e s b0 n l : Nat} {kk : IntKind} {i : Int} {u : Value} {c : List Value} (hx : evo t x = some u) (hy : evo t y = some (.int kk i)) (hr : Row m b0 s u c n) (hn : 0 < n) (hi : i = ((l : Nat) : Int)) (hl : l ≤ n) (hX : P.underlying X = some (.slice e)) (hsz : szB P e = some s)
  (hlt : Nat.blt d nt = true) (hK : ∀ u' M', Seg M' b0 s u' (c.drop (l * s)) (n - l) → m.length ≤ M'.length → (∀ j, j < m.length → NotOf u j → M'[j]? = m[j]?) → (∀ j, NotOf u j → NotB u' j) → RdS m M' → K (put t d u') M') :
  Step P nt ops ⟨some d, .slice X x (some y) none none, T, p, af, none⟩ t m K := by
 subst hi
 rcases hr with ⟨_, _, rfl⟩ | ⟨a, kd, sz, h1, rfl, h3, h4, h5⟩
 ·omega
 have hal := (List.getElem?_eq_some_iff.1 h3).1
 have hNB : ∀ o n' c' j, NotOf (.slice (some ⟨a, 0, none⟩) n n) j → NotB (.slice (some ⟨a, o, none⟩) n' c') j := fun o n' c' j hj => .ne fun e => hj n n (by rw [e])
 by_cases hlt' : l < n
 ·refine Step.slFrom hx hy rfl hl (Nat.le_refl _) hlt' hX hsz hlt (hK _ m (.inr ⟨a, 0 + l * s, kd, sz, c, h1, rfl, h3, ?_, ?_, ?_⟩) (Nat.le_refl _) (fun _ _ _ => rfl) (hNB _ _ _) (RdS.refl m))
  ·rw [Nat.zero_add, List.take_of_length_le]
   rw [List.length_drop, h4, Nat.sub_mul]; exact Nat.le_refl _
  ·rw [h4, Nat.zero_add, ← Nat.add_mul, Nat.add_sub_cancel' hl]; exact Nat.le_refl _
  ·rcases h5 with h5 | ⟨h5, h6⟩
   ·exact .inl h5
   ·exact .inr ⟨h5, h6, by rw [h4, Nat.zero_add, ← Nat.add_mul, Nat.add_sub_cancel' hl]⟩
 ·obtain rfl : l = n := by omega
  have hdrop : c.drop (l * s) = [] := List.drop_eq_nil_of_le (by omega)
  have b1 : bnd 0 (some (evD t y)) = some l := by rw [evD_of hy]; simp [bnd]
  have b2 : bnd l (none : Option Value) = some l := by simp [bnd]
  rw [hdrop, Nat.sub_self] at hK
  rcases h5 with rfl | ⟨rfl, rfl⟩
  ·refine .l rfl rfl hlt (by simp [stillB, hX]) (by simp [Op.operands, hx, hy]) (loud_of_aloud (v := .slice (some ⟨a, 0, none⟩) 0 0) (m' := m ++ [none]) rfl ?_ (hK _ _ (.inr ⟨a, 0, .own, sz, c, h1, rfl, get_old _ h3, by simp, by simp, .inl rfl⟩) (by simp) (fun j hj _ => List.getElem?_append_left hj) (hNB _ _ _) (RdS.app m _)))
   have h3' : (m ++ [none])[a]? = some (some { cells := c, kind := .own, size := sz }) := get_old _ h3
   simp only [aloud, evD_of hx, aslice, hX, hsz, Option.map_some, Option.map_none, b1, b2, h3']
   rw [if_pos ⟨Nat.le_refl _, Nat.le_refl _⟩, if_neg (Nat.lt_irrefl _)]
  ·refine .l rfl rfl hlt (by simp [stillB, hX]) (by simp [Op.operands, hx, hy]) ?_
   intro base R w b Q next hb hm hev hn'
   have g1 := hev x (by simp [Op.operands])
   have g2 := hev y (by simp [Op.operands])
   rw [evD_of hx] at g1
   rw [evD_of hy] at g2
   obtain ⟨q, hq, ex⟩ : ∃ q, R a = some q ∧ b.eval x = .slice (some ⟨q.block, q.off + 0, none⟩) l (l + q.extra) := by
    generalize b.eval x = x' at g1
    cases g1 with
    | slice _ _ _ _ q hq hle => exact ⟨q, hq, rfl⟩
   have ey : b.eval y = .int kk ((l : Nat) : Int) := by
    generalize b.eval y = y' at g2
    cases g2
    rfl
   have c1 : bnd 0 (some (.int kk ((l : Nat) : Int))) = some l := by simp [bnd]
   obtain ⟨z, hz⟩ : ∃ z, z = (if l + q.extra = l then (⟨q.block, q.off + 0, none⟩ : Addr) else (⟨q.block, q.off + 0, none⟩ : Addr).add (l * sz)) := ⟨_, rfl⟩
   have hr : (Instr.sliceAt X (b.eval x) (some (b.eval y)) none none).run P w = .ok (.slice (some z) (l - l) (l + q.extra - l)) w := by
    rw [ex, ey, hz]
    simp [Instr.sliceAt, Instr.slice, run_underlying hX, run_bounds (P := P) c1 b2 (Nat.le_refl l) (show l ≤ l + q.extra by omega), run_sizeOf' hsz]
    split <;> rfl
   have hx' : (execOp b.eval ⟨some d, .slice X x (some y) none none, T, p, af, none⟩).run P w = .ok (.value (.slice (some z) (l - l) (l + q.extra - l))) w := by simp [execOp, hr]
   by_cases he : q.extra = 0
   ·rw [if_pos (by omega)] at hz
    refine wp_of_does rfl (.inl hx') (hn' R (.slice (some ⟨a, 0, none⟩) 0 0) _ _ w ?_ (Post.own hm h3 hq he) (hK _ _ (.inr ⟨a, 0, .own, sz, c, h1, rfl, List.getElem?_set_self hal, by simp, by simp, .inl rfl⟩) (by simp) (fun j hj hne => List.getElem?_set_ne fun e => hne l l (by rw [e])) (hNB _ _ _) ?_))
    ·have := Rel.slice (R := R) a 0 0 0 q hq (Nat.le_refl _)
     rw [hz, he, Nat.sub_self, show l + 0 - l = 0 by omega]
     rw [he] at this
     simpa using this
    ·rintro a' k v ⟨bb, r1, r2⟩
     by_cases e : a' = a
     ·subst e
      rw [h3] at r1
      injection r1 with r1; injection r1 with r1; subst r1
      exact ⟨_, List.getElem?_set_self hal, r2⟩
     ·exact ⟨bb, by rw [List.getElem?_set_ne (Ne.symm e)]; exact r1, r2⟩
   ·rw [if_neg (by omega), Addr.add_lit] at hz
    refine wp_of_does rfl (.inl hx') (hn' R (.slice (some ⟨a, 0 + l * sz, none⟩) 0 0) _ _ w ?_ (.refl hm) (hK _ _ (.inr ⟨a, 0 + l * sz, .grow, sz, c, h1, rfl, h3, by simp, by omega, .inr ⟨rfl, rfl, by omega⟩⟩) (Nat.le_refl _) (fun _ _ _ => rfl) (hNB _ _ _) (RdS.refl m)))
    have := Rel.slice (R := R) a (0 + l * sz) 0 0 q hq (Nat.le_refl _)
    rw [hz, Nat.sub_self, show l + q.extra - l = q.extra by omega]
    simpa [Nat.add_assoc] using this
theorem Step.appSeg {x y : Operand} {X Y e e' : TypeId} {by_ s a o n xl b0 : Nat} {z : Array Value} {c new : List Value} {u yv : Value} (hx : evo t x = some u) (hy : evo t y = some yv) (hr : Seg m b0 s u c n) (hs : Sl yv a o xl) (hrd : 0 < xl → RdL m a o new) (hE : elemB P X = some (e, s, by_, z)) (hY : P.underlying Y = some (.slice e'))
  (hn : new.length = xl * s) (hxl : 0 < xl) (hn1 : new.all (·.oneCell') = true) (h0 : Nat.blt 0 s = true) (hb : (n + xl) * by_ ≤ 1099511627776 ∧ n + xl ≤ 1099511627776) (hlt : Nat.blt d nt = true) (hbm : b0 ≤ m.length)
  (hK : ∀ u' M', Row M' b0 s u' (c ++ new) (n + xl) → m.length ≤ M'.length → (∀ j, j < m.length → NotB u j → M'[j]? = m[j]?) → (∀ j, j < m.length → NotOf u' j) → K (put t d u') M') :
  Step P nt ops ⟨some d, .call ⟨.builtin .append, #[x, y], #[X, Y]⟩, T, p, af, none⟩ t m K := by
 have h0 : 0 < s := Nat.le_of_ble_eq_true h0
 obtain ⟨hc1, hc2⟩ := acells_sl hs hrd hn h0
 have fin : ∀ v m', aloud P ⟨some d, .call ⟨.builtin .append, #[x, y], #[X, Y]⟩, T, p, af, none⟩ (evD t) (m ++ [none]) m.length = some (v, m') → K (put t d v) m' → Step P nt ops ⟨some d, .call ⟨.builtin .append, #[x, y], #[X, Y]⟩, T, p, af, none⟩ t m K :=
  fun v m' h hk => .l rfl rfl hlt rfl (by simp [Op.operands, Call.operands, hx, hy]) (loud_of_aloud rfl h hk)
 have hnone : ¬ ((!(new.all (·.oneCell')) || s == 0) = true) := by simp [hn1]; omega
 have set1 : ∀ (M : AM) (b : Blk), M.length = m.length → (M ++ [none]).set m.length (some b) = M ++ [some b] := fun M b h => by
  rw [List.set_append_right _ _ (by omega), h]
  simp
 have hx0 : xl ≠ 0 := by omega
 rcases hr with ⟨rfl, rfl, rfl⟩ | ⟨q, oo, kd, sz, cs, hq0, rfl, hq, hcl, hle, hkd⟩
 ·refine fin (.slice (some ⟨m.length, 0, none⟩) xl xl) (m ++ [some { cells := new, kind := .grow, size := s }]) ?_ (hK _ _ (.inr ⟨m.length, .grow, s, hbm, by rw [Nat.zero_add], by simp, by simpa using hn, .inr ⟨rfl, rfl⟩⟩) (by simp) (fun j hj _ => List.getElem?_append_left hj) fun j hj => NotOf.new hj)
  simp only [aloud, evD_of hx, evD_of hy, aappend, hE, hY, hc1, hc2]
  rw [if_neg hnone, if_neg hx0, if_pos (by simpa using hb), set1 m _ rfl]
 ·have hg : (m ++ [none])[q]? = some (some { cells := cs, kind := kd, size := sz }) := get_old _ hq
  have hql := (List.getElem?_eq_some_iff.1 hq).1
  have hcc : c.length = n * s := by rw [← hcl, List.length_take, List.length_drop]; omega
  have hcn : (c ++ new).length = (n + xl) * s := by rw [List.length_append, hcc, hn, Nat.add_mul]
  rcases hkd with rfl | ⟨rfl, rfl, hend⟩
  ·refine fin (.slice (some ⟨m.length, 0, none⟩) (n + xl) (n + xl)) (m ++ [some { cells := c ++ new, kind := .grow, size := s }]) ?_ (hK _ _ (.inr ⟨m.length, .grow, s, hbm, rfl, by simp, hcn, .inr ⟨rfl, rfl⟩⟩) (by simp) (fun j hj _ => List.getElem?_append_left hj) fun j hj => NotOf.new hj)
   simp only [aloud, evD_of hx, evD_of hy, aappend, hE, hY, hc1, hc2]
   rw [if_neg hnone, if_neg hx0]
   simp only [hg]
   rw [if_neg (by omega), if_pos ⟨hb.1, hb.2, Nat.le_refl _⟩, if_pos hle, set1 m _ rfl, hcl]
  ·refine fin (.slice (some ⟨m.length, 0, none⟩) (n + xl) (n + xl)) ((m.set q none) ++ [some { cells := c ++ new, kind := .grow, size := sz }]) ?_ (hK _ _ (.inr ⟨m.length, .grow, sz, hbm, rfl, by simp, hcn, .inr ⟨rfl, rfl⟩⟩) (by simp) (fun j hj hne => ?_) fun j hj => NotOf.new hj)
   ·simp only [aloud, evD_of hx, evD_of hy, aappend, hE, hY, hc1, hc2]
    rw [if_neg hnone, if_neg hx0]
    simp only [hg]
    rw [if_neg (by omega), if_pos ⟨hb.1, hb.2, Nat.le_refl _⟩, if_pos ⟨hend, trivial⟩, List.set_append_left _ _ hql, set1 (m.set q none) _ (by simp), hcl]
   ·rw [List.getElem?_append_left (by simpa using hj), List.getElem?_set_ne]
    rintro rfl
    exact hne _ _ _ rfl
end
def frStep (l : List UInt8) : Option (List UInt8 × List UInt8) :=
 if l.length < 8 then none
 else if 65536 < numB (l.take 4) then none
 else if l.length < numB (l.take 4) + 8 then none
 else if numB ((l.drop (4 + numB (l.take 4))).take 4) = crc ((l.drop 4).take (numB (l.take 4))) then some ((l.drop 4).take (numB (l.take 4)), l.drop (8 + numB (l.take 4)))
 else none
theorem frStep_lt {l p r : List UInt8} (h : frStep l = some (p, r)) : r.length < l.length := by
 unfold frStep at h
 split at h <;> try cases h
 split at h <;> try cases h
 split at h <;> try cases h
 split at h <;> try cases h
 simp
 omega
def frN : Nat → List UInt8 → List (List UInt8) × List UInt8
 | 0, l => ([], l)
 | k + 1, l => match frStep l with
  | none => ([], l)
  | some (p, r) => (p :: (frN k r).1, (frN k r).2)
theorem frN_any : ∀ (k j : Nat) (l : List UInt8), l.length ≤ k → l.length ≤ j → frN k l = frN j l := by
 intro k
 induction k with
 | zero =>
  intro j l h _
  have : l = [] := List.eq_nil_of_length_eq_zero (by omega)
  subst this
  cases j <;> simp [frN, frStep]
 | succ k ih =>
  intro j l hk hj
  cases j with
  | zero =>
   have : l = [] := List.eq_nil_of_length_eq_zero (by omega)
   subst this
   simp [frN, frStep]
  | succ j =>
   unfold frN
   cases hs : frStep l with
   | none => rfl
   | some x =>
    obtain ⟨p, r⟩ := x
    have := frStep_lt hs
    simp only
    rw [ih j r (by omega) (by omega)]
def frames (l : List UInt8) : List (List UInt8) × List UInt8 := frN l.length l
theorem frames_none {l : List UInt8} (h : frStep l = none) : frames l = ([], l) := by
 unfold frames
 cases hl : l.length with
 | zero => rfl
 | succ k => unfold frN; rw [h]
theorem frames_some {l p r : List UInt8} (h : frStep l = some (p, r)) : frames l = (p :: (frames r).1, (frames r).2) := by
 have hlt := frStep_lt h
 unfold frames
 cases hl : l.length with
 | zero => omega
 | succ k =>
  have e : frN (k + 1) l = (p :: (frN k r).1, (frN k r).2) := by
   show (match frStep l with
    | none => ([], l)
    | some (p, r) => (p :: (frN k r).1, (frN k r).2)) = _
   rw [h]
  rw [e, frN_any k r.length r (by omega) (Nat.le_refl _)]
def Pays (M : AM) (b0 : Nat) (pv : Value) (ps : List (List UInt8)) : Prop := ∃ pc, Row M b0 1 pv pc ps.length ∧ ∀ k, k < ps.length → ∃ u, pc[k]? = some u ∧ Row M b0 1 u (by8 (ps.getD k [])) (ps.getD k []).length ∧ ∀ j, ¬ NotOf u j → NotOf pv j
theorem Pays.nil {M : AM} {b0 : Nat} : Pays M b0 (.slice none 0 0) [] := ⟨[], Row.nil, fun k hk => absurd hk (Nat.not_lt_zero _)⟩
theorem Pays.msub {M M' : AM} {b0 : Nat} {pv : Value} {ps : List (List UInt8)} (h : Pays M b0 pv ps) (hs : MSub M M') : Pays M' b0 pv ps := by
 obtain ⟨pc, h1, h2⟩ := h
 refine ⟨pc, h1.msub hs, fun k hk => ?_⟩
 obtain ⟨u, q1, q2, q3⟩ := h2 k hk
 exact ⟨u, q1, q2.msub hs, q3⟩
theorem Pays.old {M : AM} {b0 : Nat} {pv : Value} {ps : List (List UInt8)} (h : Pays M b0 pv ps) (T : AM) : Pays (M ++ T) b0 pv ps := h.msub (Sub.app M T).m
theorem Row.lt_of {M : AM} {b0 s : Nat} {u : Value} {c : List Value} {n j : Nat} (h : Row M b0 s u c n) (hj : ¬ NotOf u j) : j < M.length := by
 obtain ⟨b, hb⟩ := h.at_ hj
 exact (List.getElem?_eq_some_iff.1 hb).1
theorem Row.ge_of {M : AM} {b0 s : Nat} {u : Value} {c : List Value} {n j : Nat} (h : Row M b0 s u c n) (hj : ¬ NotOf u j) : b0 ≤ j := by
 rcases Nat.lt_or_ge j b0 with hl | hl
 ·exact absurd (NotOf.row h hl) hj
 ·exact hl
theorem Pays.push {M M1 M2 : AM} {b0 : Nat} {pv pv' u : Value} {pc : List Value} {ps : List (List UInt8)} {p : List UInt8} (hr : Row M b0 1 pv pc ps.length) (he : ∀ k, k < ps.length → ∃ u, pc[k]? = some u ∧ Row M b0 1 u (by8 (ps.getD k [])) (ps.getD k []).length ∧ ∀ j, ¬ NotOf u j → NotOf pv j)
  (h1 : ∃ N, M1 = M ++ N) (hu : Row M1 M.length 1 u (by8 p) p.length) (hb : b0 ≤ M.length) (hr2 : Row M2 b0 1 pv' (pc ++ [u]) (ps.length + 1)) (hk : ∀ j, j < M1.length → NotOf pv j → M2[j]? = M1[j]?) (hn : ∀ j, j < M1.length → NotOf pv j → NotOf pv' j) : Pays M2 b0 pv' (ps ++ [p]) := by
 obtain ⟨N, rfl⟩ := h1
 have hpcl := hr.len
 rw [Nat.mul_one] at hpcl
 refine ⟨pc ++ [u], by rw [List.length_append]; exact hr2, fun k hlt => ?_⟩
 rw [List.length_append, List.length_singleton] at hlt
 by_cases e : k < ps.length
 ·obtain ⟨x, q1, q2, q3⟩ := he k e
  have eg : (ps ++ [p]).getD k [] = ps.getD k [] := by simp only [List.getD_eq_getElem?_getD]; rw [List.getElem?_append_left e]
  rw [eg]
  have hx := q2.old N
  refine ⟨x, by rw [List.getElem?_append_left (by omega)]; exact q1, hx.keep fun j hj hnj => hk j hj (q3 j hnj), fun j hj => hn j (hx.lt_of hj) (q3 j hj)⟩
 ·obtain rfl : k = ps.length := by omega
  have eg : (ps ++ [p]).getD ps.length [] = p := by simp
  rw [eg]
  have hfar : ∀ j, ¬ NotOf u j → NotOf pv j := fun j hj => Classical.byContradiction fun hc => by
   have a1 := hr.lt_of hc
   have a2 := hu.ge_of hj
   omega
  refine ⟨u, by rw [← hpcl, List.getElem?_append_right (Nat.le_refl _), Nat.sub_self]; rfl, (hu.low hb).keep fun j hj hnj => hk j hj (hfar j hnj), fun j hj => hn j (hu.lt_of hj) (hfar j hj)⟩
theorem el27 : elemB Try.prog 27 = some (22, 1, 24, #[.slice none 0 0]) := by kernel_rfl
theorem un27 : Try.prog.underlying 27 = some (.slice 22) := by kernel_rfl
theorem bs27 {m : AM} {k : Nat} {v : Value} (h : SlV v := by assumption) : abuildSlice Try.prog m k 27 1 [(0, v)] = some (.slice (some ⟨k, 0, none⟩) 1 1, m.set k (some { cells := [v] })) := by
 rcases h with rfl | ⟨_, _, _, rfl⟩ <;> kernel_rfl
theorem numB_lt4 {l : List UInt8} (h : l.length ≤ 4) : numB l < 4294967296 := by
 have h1 := numB_lt l
 have h2 : 2 ^ (8 * l.length) ≤ 2 ^ 32 := Nat.pow_le_pow_right (by omega) (by omega)
 rw [show (2 : Nat) ^ 32 = 4294967296 by decide] at h2
 omega
theorem BytsAt.part {m : AM} {a o c : Nat} {l : List UInt8} {i j : Nat} (h : BytsAt m (.slice (some ⟨a, o, none⟩) l.length c) a o l) (hij : i ≤ j) (hj : j ≤ l.length) (hc : l.length ≤ c) (ha : a < m.length) : Byts m (.slice (some ⟨a, o + i * 1, none⟩) (j - i) (c - i)) ((l.drop i).take (j - i)) := by
 have hl : ((l.drop i).take (j - i)).length = j - i := by rw [List.length_take, List.length_drop]; omega
 refine ⟨a, o + i * 1, by rw [hl]; exact Sl.mk (by omega), ha, fun k hk => ?_⟩
 rw [hl] at hk
 have := h.2 (i + k) (by omega)
 have e : ((l.drop i).take (j - i)).getD k 0 = l.getD (i + k) 0 := by
  simp only [List.getD_eq_getElem?_getD]
  rw [List.getElem?_take, if_pos hk, List.getElem?_drop]
 rw [e, Nat.mul_one, Nat.add_assoc]
 exact this
theorem BytsAt.pre {m : AM} {a o c : Nat} {l : List UInt8} {j : Nat} (h : BytsAt m (.slice (some ⟨a, o, none⟩) l.length c) a o l) (hj : j ≤ l.length) (hc : l.length ≤ c) (ha : a < m.length) : Byts m (.slice (some ⟨a, o, none⟩) j c) (l.take j) := by
 have hl : (l.take j).length = j := by rw [List.length_take]; omega
 refine ⟨a, o, by rw [hl]; exact Sl.mk (by omega), ha, fun k hk => ?_⟩
 rw [hl] at hk
 have := h.2 k (by omega)
 have e : (l.take j).getD k 0 = l.getD k 0 := by
  simp only [List.getD_eq_getElem?_getD]
  rw [List.getElem?_take, if_pos hk]
 rw [e]
 exact this
theorem BytsAt.old {m : AM} {v : Value} {a o : Nat} {l : List UInt8} (h : BytsAt m v a o l) (T : AM) : BytsAt (m ++ T) v a o l := ⟨h.1, fun k hk => (h.2 k hk).old T⟩
theorem BytsAt.rest {m M : AM} {a o c n a' o' : Nat} {l : List UInt8} (h : BytsAt m (.slice (some ⟨a, o, none⟩) l.length c) a o l) (hc : l.length ≤ c) (hn : n ≤ l.length) (hr : RdS m M) (hq : n < l.length → a' = a ∧ o' = o + n * 1) : BytsAt M (.slice (some ⟨a', o', none⟩) (l.length - n) (c - n)) a' o' (l.drop n) := by
 have hl : (l.drop n).length = l.length - n := List.length_drop
 refine ⟨by rw [hl]; exact Sl.mk (by omega), fun k hk => ?_⟩
 rw [hl] at hk
 obtain ⟨rfl, rfl⟩ := hq (by omega)
 have := h.2 (n + k) (by omega)
 have e : (l.drop n).getD k 0 = l.getD (n + k) 0 := by
  simp only [List.getD_eq_getElem?_getD]
  rw [List.getElem?_drop]
 rw [e, Nat.mul_one, Nat.add_assoc]
 exact hr _ _ _ this
set_option maxHeartbeats 8000000 in
set_option maxRecDepth 100000 in
theorem Frames_ok {m : AM} {v : Value} {a o : Nat} {l : List UInt8} (h : BytsAt m v a o l) (ha : a < m.length) (hlen : l.length ≤ 100000000) :
  ACall Try.prog 18 #[v] m (More (fun M r => ∃ pv, r = .tuple #[pv, .int .i64 ((frames l).2.length : Nat)] ∧ Pays M m.length pv (frames l).1) m) := by
 refine ACall.start Try.func18 rfl rfl ?_
 (repeat (first|(with_reducible refine AWo.cons ?_)|((with_reducible refine Step.id ?_);((with_reducible apply Step.assign);exact rfl;exact rfl))|(with_reducible first|apply AWo.nil|apply AW.seq|apply Then.n|apply AW.regL|apply AW.block)))
 refine AW.midX 0 (fun t' M => ∃ (v' : Value) (a' o' : Nat) (pv : Value), BytsAt M v' a' o' (frames l).2 ∧ Pays M m.length pv (frames l).1 ∧ (∃ N, M = m ++ N) ∧ All (fun i v => t' i = some v) [(0, v'), (2, pv)]) ?_ ?_
 ·refine AW.loopW (fun q t M => ∃ (v' : Value) (a' o' : Nat) (r : List UInt8) (ps : List (List UInt8)) (pv : Value), q = r.length ∧ r.length ≤ l.length ∧ BytsAt M v' a' o' r ∧ (0 < r.length → a' = a) ∧ Pays M m.length pv ps ∧ (∃ N, M = m ++ N) ∧ ps.length + r.length ≤ l.length ∧ ps ++ (frames r).1 = (frames l).1 ∧ (frames r).2 = (frames l).2 ∧
   t = fr [(0, v'), (2, pv)]) ⟨_, _, (by repeat (first | exact trivial | (refine And.intro rfl ?_))), v, a, o, l, [], .slice none 0 0, rfl, Nat.le_refl _, by rw [List.append_nil]; exact h, fun _ => rfl, .nil, ⟨[], by simp⟩, by simp, rfl, rfl, rfl⟩ ?_
  rintro q t M ⟨v', a', o', r, ps, pv, rfl, hrl, hb, haa, hp, ⟨N, rfl⟩, hcnt, hf1, hf2, rfl⟩
  have hsl := hb.1
  refine AW.rebase ?_
  by_cases h8 : r.length < 8
  ·have hst : frStep r = none := by unfold frStep; rw [if_pos h8]
   rw [frames_none hst] at hf1 hf2
   rw [List.append_nil] at hf1
   simp only at hf2
   (repeat (first|(with_reducible refine AWo.cons ?_)|((with_reducible refine Step.id ?_);first|((with_reducible apply Step.move);exact rfl;exact rfl)|((with_reducible apply Step.geq);exact rfl;exact rfl;exact rfl)|((with_reducible apply Step.len);exact rfl;((assumption));((decide +kernel));exact rfl))|(with_reducible first|apply AWo.nil|apply AW.seq|apply Then.n|apply AW.regL|apply AW.exit|apply Then.e)|((with_reducible apply AW.condF);exact rfl;(((simp only [zq1, zq2, zq3, zq4, zq5, zq6];first|assumption|omega))))))
   refine ⟨rfl, v', a', o', pv, ?_, ?_, ⟨N, by simp⟩, (by repeat (first | exact trivial | (refine And.intro rfl ?_)))⟩
   ·rw [← hf2, List.append_nil]; exact hb
   ·rw [← hf1, List.append_nil]; exact hp
  ·obtain rfl := haa (by omega)
   obtain ⟨c, hc, rfl⟩ : ∃ c, r.length ≤ c ∧ v' = .slice (some ⟨a', o', none⟩) r.length c := by
    rcases hsl with ⟨_, e⟩ | h | ⟨e, _⟩
    ·omega
    ·exact h
    ·omega
   have hbX := hb
   obtain ⟨X, hX⟩ : ∃ X : AM, X = m ++ N := ⟨_, rfl⟩
   have haX : a' < X.length := by rw [hX, List.length_append]; omega
   rw [← hX] at hb hp
   have hXm : ∀ T : AM, ∃ N, X ++ T = m ++ N := fun T => ⟨N ++ T, by rw [hX, List.append_assoc]⟩
   rw [← hX]
   have hn4 := numB_lt4 (l := r.take 4) (by rw [List.length_take]; omega)
   have hg1 := fun T => get_ok ((hb.old T).pre (j := 4) (by omega) hc (by rw [List.length_append]; omega)) (by rw [List.length_take]; omega)
   have hst : frStep r = (if r.length < 8 then none
    else if 65536 < numB (r.take 4) then none
    else if r.length < numB (r.take 4) + 8 then none
    else if numB ((r.drop (4 + numB (r.take 4))).take 4) = crc ((r.drop 4).take (numB (r.take 4))) then some ((r.drop 4).take (numB (r.take 4)), r.drop (8 + numB (r.take 4)))
    else none) := rfl
   rw [if_neg h8] at hst
   have stop : frStep r = none → BytsAt (X ++ []) (.slice (some ⟨a', o', none⟩) r.length c) a' o' (frames l).2 ∧ Pays (X ++ []) m.length pv (frames l).1 := fun h => by
    rw [frames_none h] at hf1 hf2
    rw [List.append_nil] at hf1 ⊢
    simp only at hf2
    rw [← hf1, ← hf2]
    exact ⟨hb, hp⟩
   generalize hn : numB (r.take 4) = n at *
   by_cases c1 : 65536 < n
   ·rw [if_pos c1] at hst
    obtain ⟨s1, s2⟩ := stop hst
    (repeat (first|(with_reducible refine AWo.cons ?_)|((with_reducible refine Step.id ?_);first|((with_reducible apply Step.move);exact rfl;exact rfl)|((with_reducible apply Step.geq);exact rfl;exact rfl;exact rfl)|((with_reducible apply Step.len);exact rfl;((assumption));((decide +kernel));exact rfl))|(with_reducible first|apply AWo.nil|apply AW.seq|apply Then.n|apply AW.regL|apply AW.block|apply AW.skip)|((with_reducible apply AW.condT);exact rfl;(((simp only [zq1, zq2, zq3, zq4, zq5, zq6];first|assumption|omega))))))
    ((with_reducible apply Step.slTo (h := 4));exact rfl;exact rfl;exact rfl;((omega));exact un22;exact sz5;exact rfl)
    (repeat (first|(with_reducible refine AWo.cons ?_)|((with_reducible refine Step.id ?_);first|((with_reducible apply Step.gdF);exact rfl;exact rfl;(((simp only [zq1, zq2, zq3, zq4, zq5, zq6];first|assumption|omega))))|((with_reducible apply Step.move);exact rfl;exact rfl)|((with_reducible apply Step.assign);exact rfl;exact rfl)|((with_reducible apply Step.gtr);exact rfl;exact rfl;exact rfl)|((with_reducible apply Step.pickT);exact rfl;exact rfl;exact rfl;exact rfl;(((simp only [zq1, zq2, zq3, zq4, zq5, zq6];first|assumption|omega))))|((with_reducible apply Step.callR fit);exact rfl;exact Try.func71;exact rfl;exact rfl;exact (hg1 _)))|(with_reducible first|apply AWo.nil|apply AW.seq|apply Then.n|apply AW.regL|apply AW.exit)|((with_reducible apply InBlk.miss);exact rfl)|(with_reducible apply Then.e)|((with_reducible apply AW.condT);exact rfl;((rfl)))))
    exact ⟨rfl, _, a', o', pv, s1, s2, hXm _, (by repeat (first | exact trivial | (refine And.intro rfl ?_)))⟩
   ·rw [if_neg c1] at hst
    by_cases c2 : r.length < n + 8
    ·rw [if_pos c2] at hst
     obtain ⟨s1, s2⟩ := stop hst
     (repeat (first|(with_reducible refine AWo.cons ?_)|((with_reducible refine Step.id ?_);first|((with_reducible apply Step.move);exact rfl;exact rfl)|((with_reducible apply Step.geq);exact rfl;exact rfl;exact rfl)|((with_reducible apply Step.len);exact rfl;((assumption));((decide +kernel));exact rfl))|(with_reducible first|apply AWo.nil|apply AW.seq|apply Then.n|apply AW.regL|apply AW.block|apply AW.skip)|((with_reducible apply AW.condT);exact rfl;(((simp only [zq1, zq2, zq3, zq4, zq5, zq6];first|assumption|omega))))))
     ((with_reducible apply Step.slTo (h := 4));exact rfl;exact rfl;exact rfl;((omega));exact un22;exact sz5;exact rfl)
     (repeat (first|(with_reducible refine AWo.cons ?_)|((with_reducible refine Step.id ?_);first|((with_reducible apply Step.gdT);exact rfl;exact rfl;(((simp only [zq1, zq2, zq3, zq4, zq5, zq6];first|assumption|omega))))|((with_reducible apply Step.move);exact rfl;exact rfl)|((with_reducible apply Step.assign);exact rfl;exact rfl)|((with_reducible apply Step.sub);exact rfl;exact rfl;((omega));exact rfl)|((with_reducible apply Step.gtr);exact rfl;exact rfl;exact rfl)|((with_reducible apply Step.len);exact rfl;((assumption));((decide +kernel));exact rfl)|((with_reducible apply Step.pickF);exact rfl;exact rfl;exact rfl;exact rfl;(((simp only [zq1, zq2, zq3, zq4, zq5, zq6];first|assumption|omega))))|((with_reducible apply Step.callR fit);exact rfl;exact Try.func71;exact rfl;exact rfl;exact (hg1 _)))|(with_reducible first|apply AWo.nil|apply AW.seq|apply Then.n|apply AW.regL|apply AW.exit)|((with_reducible apply InBlk.miss);exact rfl)|(with_reducible apply Then.e)|((with_reducible apply AW.condT);exact rfl;(((simp only [zq1, zq2, zq3, zq4, zq5, zq6];first|assumption|omega))))))
     exact ⟨rfl, _, a', o', pv, s1, s2, hXm _, (by repeat (first | exact trivial | (refine And.intro rfl ?_)))⟩
    ·rw [if_neg c2] at hst
     have hp1 : ((r.drop (4 + n)).take 4).length = 4 := by rw [List.length_take, List.length_drop]; omega
     have hq1 := numB_lt4 (l := (r.drop (4 + n)).take 4) (by omega)
     have hg2 := fun T => get_ok (by have := (hb.old T).part (i := 4 + n) (j := 8 + n) (by omega) (by omega) hc (by rw [List.length_append]; omega); rw [show 8 + n - (4 + n) = 4 by omega] at this; exact this) (by rw [hp1]; omega)
     have hpl : ((r.drop 4).take n).length = n := by rw [List.length_take, List.length_drop]; omega
     have hby := fun T => (hb.old T).part (i := 4) (j := 4 + n) (by omega) (by omega) hc (by rw [List.length_append]; omega)
     rw [show 4 + n - 4 = n by omega] at hby
     have hck := fun T => check_ok (hby T) (by rw [hpl]; omega)
     have hcl := crc_lt ((r.drop 4).take n)
     have hcn := fun T => clone_ok (hby T) (by rw [hpl]; omega)
     rw [hpl] at hcn
     generalize hP : (r.drop 4).take n = p at *
     generalize hQ : numB ((r.drop (4 + n)).take 4) = z at *
     have eN : (((4 : Int) + (n : Int))) = ((4 + n : Nat) : Int) := by omega
     have eM : (((8 : Int) + (n : Int))) = ((8 + n : Nat) : Int) := by omega
     (repeat (first|(with_reducible refine AWo.cons ?_)|((with_reducible refine Step.id ?_);first|((with_reducible apply Step.move);exact rfl;exact rfl)|((with_reducible apply Step.geq);exact rfl;exact rfl;exact rfl)|((with_reducible apply Step.len);exact rfl;((assumption));((decide +kernel));exact rfl))|(with_reducible first|apply AWo.nil|apply AW.seq|apply Then.n|apply AW.regL|apply AW.block|apply AW.skip)|((with_reducible apply AW.condT);exact rfl;(((simp only [zq1, zq2, zq3, zq4, zq5, zq6];first|assumption|omega))))))
     ((with_reducible apply Step.slTo (h := 4));exact rfl;exact rfl;exact rfl;((omega));exact un22;exact sz5;exact rfl)
     (repeat (first|(with_reducible refine AWo.cons ?_)|((with_reducible refine Step.id ?_);first|((with_reducible apply Step.gdT);exact rfl;exact rfl;(((simp only [zq1, zq2, zq3, zq4, zq5, zq6];first|assumption|omega))))|((with_reducible apply Step.move);exact rfl;exact rfl)|((with_reducible apply Step.assign);exact rfl;exact rfl)|((with_reducible apply Step.add);exact rfl;exact rfl;((omega));exact rfl)|((with_reducible apply Step.sub);exact rfl;exact rfl;((omega));exact rfl)|((with_reducible apply Step.gtr);exact rfl;exact rfl;exact rfl)|((with_reducible apply Step.len);exact rfl;((assumption));((decide +kernel));exact rfl)|((with_reducible apply Step.pickF);exact rfl;exact rfl;exact rfl;exact rfl;(((simp only [zq1, zq2, zq3, zq4, zq5, zq6];first|assumption|omega))))|((with_reducible apply Step.callR fit);exact rfl;exact Try.func71;exact rfl;exact rfl;exact (hg1 _)))|(with_reducible first|apply AWo.nil|apply AW.seq|apply Then.n|apply AW.regL|apply AW.skip)|((with_reducible apply AW.condF);exact rfl;(((simp only [zq1, zq2, zq3, zq4, zq5, zq6];first|assumption|omega))))))
     ((with_reducible apply Step.slPart (l := 4) (h := 4 + n));exact rfl;exact rfl;exact rfl;exact rfl;exact eN;((omega));((omega));((omega));exact un22;exact sz5;exact rfl)
     (repeat (first|(with_reducible refine AWo.cons ?_)|((with_reducible refine Step.id ?_);first|((with_reducible apply Step.move);exact rfl;exact rfl)|((with_reducible apply Step.assign);exact rfl;exact rfl)|((with_reducible apply Step.add);exact rfl;exact rfl;((omega));exact rfl))|(with_reducible first|apply AWo.nil|apply AW.seq|apply Then.n|apply AW.regL)))
     ((with_reducible apply Step.slPart (l := 4 + n) (h := 8 + n));exact rfl;exact rfl;exact rfl;exact eN;exact eM;((omega));((omega));((omega));exact un22;exact sz5;exact rfl)
     rw [show 8 + n - (4 + n) = 4 by omega, show 4 + n - 4 = n by omega]
     by_cases c3 : z = crc p
     ·rw [if_pos c3] at hst
      obtain ⟨pc, hpr, hpe⟩ := hp
      (repeat (first|(with_reducible refine AWo.cons ?_)|((with_reducible refine Step.id ?_);first|((with_reducible apply Step.move);exact rfl;exact rfl)|((with_reducible apply Step.neq);exact rfl;exact rfl;exact rfl)|((with_reducible apply Step.callR fit);exact rfl;exact Try.func71;exact rfl;exact rfl;exact (hg2 _))|((with_reducible apply Step.callR fit);exact rfl;exact Try.func72;exact rfl;exact rfl;exact (hck _)))|(with_reducible first|apply AWo.nil|apply AW.seq|apply Then.n|apply AW.regL|apply AW.skip)|((with_reducible apply AW.condF);exact rfl;(((simp only [zq1, zq2, zq3, zq4, zq5, zq6];first|assumption|omega))))))
      ((with_reducible apply Step.callX fit);exact rfl;exact Try.func73;exact rfl;exact rfl;exact (hcn _))
      rintro u M1 ⟨N1, hN1⟩ hu
      rw [List.append_nil] at hN1 hu
      have hus : SlV u := hu.slv
      have hM1l : X.length ≤ M1.length := by rw [hN1, List.length_append]; omega
      have hXl : m.length ≤ X.length := by rw [hX, List.length_append]; omega
      rw [List.append_nil, ← List.append_nil M1]
      (repeat (first|(with_reducible refine AWo.cons ?_)|((with_reducible refine Step.id ?_);((with_reducible apply Step.buildS 0);exact rfl;exact rfl;exact (fun _ _ => bs27);exact rfl;((first|(simp only [zq7, zq8, zq9, zq0, iv_set, bv_set, iv_rep, bv_rep] <;> rfl)|rfl))))))
      ((with_reducible apply Step.appRow2 (s := 1) (n := ps.length) (xl := 1) (b0 := m.length) (c := pc) (new := [u]));exact rfl;exact rfl;((rw [hN1];exact (hpr.old N1).old _));exact (Sl.mk (Nat.le_refl _));exact (fun _ => RdL.new rfl rfl);exact el27;exact un27;exact rfl;((rw [List.all_cons, hus.one.1];rfl));exact rfl;((omega));exact rfl;((rw [List.length_append];omega)))
      intro pv' M2 hr2 hml2 hk2 hn2
      rw [List.length_append] at hml2
      have hp2 := Pays.push (p := p) hpr hpe ⟨N1 ++ [some { cells := [u] }], by rw [hN1, List.append_assoc]⟩ (by rw [hpl]; exact hu.old [some { cells := [u] }]) hXl hr2 hk2 hn2
      obtain ⟨N2, hN2⟩ := pre_keep (m0 := m) (M := M1 ++ [some { cells := [u] }]) ⟨N ++ (N1 ++ [some { cells := [u] }]), by rw [hN1, hX]; simp⟩ (by rw [List.length_append]; exact hml2) fun j hj => hk2 j (by rw [List.length_append]; omega) (NotOf.row hpr hj)
      rw [← List.append_nil M2]
      (repeat (first|(with_reducible refine AWo.cons ?_)|((with_reducible refine Step.id ?_);first|((with_reducible apply Step.move);exact rfl;exact rfl)|((with_reducible apply Step.assign);exact rfl;exact rfl)|((with_reducible apply Step.add);exact rfl;exact rfl;((omega));exact rfl))|(with_reducible first|apply AWo.nil|apply Then.n|apply AW.regL)))
      have hb2 : BytsAt (M2 ++ []) (.slice (some ⟨a', o', none⟩) r.length c) a' o' r := by
       rw [List.append_nil, hN2]
       refine BytsAt.old ⟨hbX.1, fun k hk => ?_⟩ N2
       obtain ⟨b, w1, w2⟩ := hbX.2 k hk
       exact ⟨b, by rw [List.getElem?_append_left ha] at w1; exact w1, w2⟩
      ((with_reducible apply Step.restN (l := 8 + n));exact rfl;exact rfl;exact eM;((omega));exact hc;exact un22;exact sz5;exact rfl)
      intro a2 o2 ha2 hq2
      have hb3 := hb2.rest (n := 8 + n) (M := M2 ++ [] ++ [none]) hc (by omega) (RdS.app _ _) hq2
      have hdl : (r.drop (8 + n)).length = r.length - (8 + n) := List.length_drop
      rw [frames_some hst] at hf1 hf2
      simp only at hf1 hf2
      (repeat (first|(with_reducible refine AWo.cons ?_)|((with_reducible refine Step.id ?_);((with_reducible apply Step.assign);exact rfl;exact rfl))|(with_reducible first|apply AWo.nil|apply Then.n|apply InBlk.n)))
      exact ⟨_, [(0, .slice (some ⟨a2, o2, none⟩) (r.length - (8 + n)) (c - (8 + n))), (2, pv')], by omega, (by repeat (first | exact trivial | (refine And.intro rfl ?_))), _, a2, o2, r.drop (8 + n), ps ++ [p], pv', hdl.symm, by omega, hb3, fun h0 => (hq2 (by omega)).1, by rw [List.append_nil]; exact hp2.old _, ⟨N2 ++ [none], by rw [hN2]; simp⟩, by rw [List.length_append, List.length_singleton]; omega, by rw [List.append_assoc]; exact hf1, hf2, rfl⟩
     ·rw [if_neg c3] at hst
      obtain ⟨s1, s2⟩ := stop hst
      (repeat (first|(with_reducible refine AWo.cons ?_)|((with_reducible refine Step.id ?_);first|((with_reducible apply Step.move);exact rfl;exact rfl)|((with_reducible apply Step.neq);exact rfl;exact rfl;exact rfl)|((with_reducible apply Step.callR fit);exact rfl;exact Try.func71;exact rfl;exact rfl;exact (hg2 _))|((with_reducible apply Step.callR fit);exact rfl;exact Try.func72;exact rfl;exact rfl;exact (hck _)))|(with_reducible first|apply AWo.nil|apply Then.n|apply AW.exit)|((with_reducible apply InBlk.miss);exact rfl)|(with_reducible apply Then.e)|((with_reducible apply AW.condT);exact rfl;(((simp only [zq1, zq2, zq3, zq4, zq5, zq6];first|assumption|omega))))))
      exact ⟨rfl, _, a', o', pv, s1, s2, hXm _, (by repeat (first | exact trivial | (refine And.intro rfl ?_)))⟩
 ·rintro t' M ⟨v', a', o', pv, hb, hp, ⟨N, rfl⟩, hsl⟩
  refine InBlk.hit ?_
  refine Then.n ?_
  refine AW.weak (fr_all hsl) ?_
  clear hsl
  refine AW.rebase ?_
  have hs := hb.1
  (repeat (first|(with_reducible refine AWo.cons ?_)|((with_reducible refine Step.id ?_);first|((with_reducible apply Step.move);exact rfl;exact rfl)|((with_reducible apply Step.assign);exact rfl;exact rfl)|((with_reducible apply Step.len);exact rfl;((assumption));((decide +kernel));exact rfl))|(with_reducible first|apply AWo.nil|apply AW.seq|apply Then.n|apply AW.regL)))
  (refine AW.ret ?_; (repeat (first | refine Then.r ?_ | refine InBlk.r ?_)))
  exact ⟨_, rfl, N, by rw [List.append_nil], pv, rfl, by rw [List.append_nil]; exact hp⟩
def RowC (M : AM) (b0 : Nat) (u : Value) (l : List UInt8) : Prop :=
 (u = .slice none 0 0 ∧ l = []) ∨ ∃ (a c : Nat) (kd : Kind) (sz : Nat) (cs : List Value), b0 ≤ a ∧ u = .slice (some ⟨a, 0, none⟩) l.length c ∧ l.length ≤ c ∧ M[a]? = some (some { cells := cs, kind := kd, size := sz }) ∧ cs.take l.length = by8 l ∧ (kd = .own ∧ c ≤ cs.length ∨ kd = .grow ∧ sz = 1 ∧ c = cs.length)
theorem RowC.nil {M : AM} {b0 : Nat} : RowC M b0 (.slice none 0 0) [] := .inl ⟨rfl, rfl⟩
theorem Row.c {M : AM} {b0 : Nat} {u : Value} {l : List UInt8} (h : Row M b0 1 u (by8 l) l.length) : RowC M b0 u l := by
 rcases h with ⟨h1, h2, h3⟩ | ⟨a, kd, sz, h1, h2, h3, h4, h5⟩
 ·exact .inl ⟨h1, List.eq_nil_of_length_eq_zero h3⟩
 ·refine .inr ⟨a, l.length, kd, sz, by8 l, h1, h2, Nat.le_refl _, h3, by rw [List.take_of_length_le]; rw [by8_len]; exact Nat.le_refl _, ?_⟩
  rcases h5 with h5 | ⟨h5, h6⟩
  ·exact .inl ⟨h5, by rw [by8_len]; exact Nat.le_refl _⟩
  ·exact .inr ⟨h5, h6, by rw [by8_len]⟩
theorem RowC.keep {M M' : AM} {b0 : Nat} {u : Value} {l : List UInt8} (h : RowC M b0 u l) (hk : ∀ j b, M[j]? = some (some b) → ¬ NotB u j → b.kind.mine = true → M'[j]? = some (some b)) : RowC M' b0 u l := by
 rcases h with h | ⟨a, c, kd, sz, cs, h1, h2, h3, h4, h5, h6⟩
 ·exact .inl h
 ·refine .inr ⟨a, c, kd, sz, cs, h1, h2, h3, hk a _ h4 (fun hn => hn _ _ _ h2) ?_, h5, h6⟩
  rcases h6 with ⟨rfl, _⟩ | ⟨rfl, _⟩ <;> rfl
theorem RowC.msub {M M' : AM} {b0 : Nat} {u : Value} {l : List UInt8} (h : RowC M b0 u l) (hs : MSub M M') : RowC M' b0 u l := h.keep fun j b hb _ hm => hs.get j b hm hb
theorem RowC.old {M : AM} {b0 : Nat} {u : Value} {l : List UInt8} (h : RowC M b0 u l) (T : AM) : RowC (M ++ T) b0 u l := h.msub (Sub.app M T).m
theorem RowC.at_ {M : AM} {b0 : Nat} {u : Value} {l : List UInt8} {j : Nat} (h : RowC M b0 u l) (hj : ¬ NotB u j) : b0 ≤ j ∧ ∃ b, M[j]? = some (some b) ∧ b.kind.mine = true := by
 rcases h with ⟨rfl, _⟩ | ⟨a, c, kd, sz, cs, h1, rfl, h3, h4, h5, h6⟩
 ·exact absurd NotB.nil hj
 ·by_cases e : j = a
  ·subst e; exact ⟨h1, _, h4, by rcases h6 with ⟨rfl, _⟩ | ⟨rfl, _⟩ <;> rfl⟩
  ·exact absurd (NotB.ne e) hj
theorem RowC.lt {M : AM} {b0 : Nat} {u : Value} {l : List UInt8} {j : Nat} (h : RowC M b0 u l) (hj : ¬ NotB u j) : j < M.length := by
 obtain ⟨_, b, hb, _⟩ := h.at_ hj
 exact (List.getElem?_eq_some_iff.1 hb).1
theorem RowC.vw {S : Nat → Prop} {M : AM} {b0 : Nat} {u : Value} {l : List UInt8} (h : RowC M b0 u l) (hS : ∀ j, ¬ NotB u j → S j) : RowC (Abs.vw S M) b0 u l := h.keep fun j b hb hn _ => vw_some.2 ⟨hS j hn, hb⟩
theorem RowC.sl {M : AM} {b0 : Nat} {u : Value} {l : List UInt8} (h : RowC M b0 u l) (hM : 0 < M.length) : ∃ a, Sl u a 0 l.length ∧ a < M.length ∧ (0 < l.length → RdL M a 0 (by8 l)) := by
 rcases h with ⟨rfl, rfl⟩ | ⟨a, c, kd, sz, cs, h1, rfl, h3, h4, h5, h6⟩
 ·exact ⟨0, .inl ⟨rfl, rfl⟩, hM, fun h => absurd h (by simp)⟩
 ·refine ⟨a, Sl.mk h3, (List.getElem?_eq_some_iff.1 h4).1, fun _ => ⟨_, h4, fun j v hj => ?_⟩⟩
  have hl := (List.getElem?_eq_some_iff.1 hj).1
  rw [by8_len] at hl
  rw [← h5, List.getElem?_take, if_pos hl] at hj
  rw [Nat.zero_add]; exact hj
theorem RowC.byts {M : AM} {b0 : Nat} {u : Value} {l : List UInt8} (h : RowC M b0 u l) (hM : 0 < M.length) : Byts M u l := by
 obtain ⟨a, h1, h2, h3⟩ := h.sl hM
 refine ⟨a, 0, h1, h2, fun k hk => ?_⟩
 obtain ⟨b, q1, q2⟩ := h3 (by omega)
 exact ⟨b, q1, q2 k _ (by rw [by8_get hk]; simp [hk])⟩
theorem RowC.slv {M : AM} {b0 : Nat} {u : Value} {l : List UInt8} (h : RowC M b0 u l) : SlV u := by
 rcases h with ⟨rfl, _⟩ | ⟨a, c, kd, sz, cs, _, rfl, _⟩
 ·exact .inl rfl
 ·exact .inr ⟨_, _, _, rfl⟩
theorem Post.move {base : Nat} {R : Pl} {m : AM} {w : World} (h : MRep base R m w) {a j : Nat} {b : Blk} {q q' : Sim.Place} (ha : m[a]? = some (some b)) (hs : b.kind.solid = true) (hq : R a = some q) (hj : m[j]? = some none) (hq' : R j = some q') (e1 : q'.block = q.block) (e2 : q'.off = q.off) (e3 : q'.extra = 0) :
  Post base m ((m.set a none).set j (some { cells := b.cells, kind := .own, size := b.size })) R R w w := by
 have hal := (List.getElem?_eq_some_iff.1 ha).1
 have hjl := (List.getElem?_eq_some_iff.1 hj).1
 have hne : j ≠ a := fun e => by rw [e, ha] at hj; cases hj
 have new : ((m.set a none).set j (some { cells := b.cells, kind := .own, size := b.size }))[j]? = some (some { cells := b.cells, kind := .own, size := b.size }) := List.getElem?_set_self (by rw [List.length_set]; exact hjl)
 have gone : ((m.set a none).set j (some { cells := b.cells, kind := .own, size := b.size }))[a]? = some none := by rw [List.getElem?_set_ne hne, List.getElem?_set_self hal]
 have old : ∀ i, i ≠ a → i ≠ j → ((m.set a none).set j (some { cells := b.cells, kind := .own, size := b.size }))[i]? = m[i]? := fun i h1 h2 => by rw [List.getElem?_set_ne (Ne.symm h2), List.getElem?_set_ne (Ne.symm h1)]
 have hbe : b.kind ≠ .edge := by intro e; rw [e] at hs; cases hs
 have hbm : b.kind.mine = true := Kind.solid_mine hs
 have back : ∀ (i : Nat) (d : Blk), ((m.set a none).set j (some { cells := b.cells, kind := .own, size := b.size }))[i]? = some (some d) → ∃ (i' : Nat) (d' : Blk), m[i']? = some (some d') ∧ (i' = i ∧ i ≠ a ∧ d' = d ∨ i = j ∧ i' = a ∧ d' = b ∧ d = { cells := b.cells, kind := .own, size := b.size }) := fun i d hi => by
  by_cases e : i = j
  ·subst e
   rw [new] at hi
   injection hi with hi; injection hi with hi
   exact ⟨a, b, ha, .inr ⟨rfl, rfl, rfl, hi.symm⟩⟩
  ·have hia : i ≠ a := fun e' => by rw [e', gone] at hi; cases hi
   rw [old i hia e] at hi
   exact ⟨i, d, hi, .inl ⟨rfl, hia, rfl⟩⟩
 have blk : ∀ (i : Nat) (d : Blk) (p : Sim.Place), ((m.set a none).set j (some { cells := b.cells, kind := .own, size := b.size }))[i]? = some (some d) → R i = some p → ∃ (i' : Nat) (d' : Blk) (p' : Sim.Place), m[i']? = some (some d') ∧ R i' = some p' ∧ p'.block = p.block ∧ d'.kind.mine = d.kind.mine ∧ (d'.kind = .edge → d.kind = .edge) ∧ (i' = i ∧ i ≠ a ∨ i = j ∧ i' = a) := fun i d p hi hp => by
  obtain ⟨i', d', g1, g2⟩ := back i d hi
  rcases g2 with ⟨rfl, g3, rfl⟩ | ⟨rfl, rfl, rfl, rfl⟩
  ·exact ⟨i', d', p, g1, hp, rfl, rfl, id, .inl ⟨rfl, g3⟩⟩
  ·rw [hq'] at hp; injection hp with hp; subst hp
   exact ⟨i', d', q, g1, hq, e1.symm, by rw [hbm]; rfl, fun e => absurd e hbe, .inr ⟨rfl, rfl⟩⟩
 refine ⟨.refl R, ⟨fun i hi => h.none_ i (by simpa using hi), fun i d hi => ?_, fun i k bi bk pi pk hi hk hbi hbk hik hpi hpk => ?_⟩, rfl, rfl, rfl, Nat.le_refl _, fun _ _ _ => rfl, fun k ho => .inr ?_⟩
 ·obtain ⟨i', d', g1, g2⟩ := back i d hi
  rcases g2 with ⟨rfl, g3, rfl⟩ | ⟨rfl, rfl, rfl, rfl⟩
  ·exact h.rep i' d' g1
  ·obtain ⟨p, r1, r2⟩ := h.rep i' d' g1
   rw [hq] at r1; injection r1 with r1; subst r1
   refine ⟨q', hq', by rw [e1]; exact r2.lt, ?_⟩
   have r3 : ∃ cur ty, w.heap[q.block]? = some (.cells cur ty (0, 0)) ∧ base ≤ q.block ∧ q.off + d'.cells.length + q.extra * d'.size ≤ cur.size ∧ ∀ j v, d'.cells[j]? = some v → ∃ v', cur[q.off + j]? = some v' ∧ Rel R v v' ∧ v'.oneCell' = true := by
    obtain ⟨_, r⟩ := r2
    split at r
    ·rename_i e; rw [e] at hs; cases hs
    ·rename_i e; rw [e] at hs; cases hs
    ·rename_i e; rw [e] at hs; cases hs
    ·rename_i e; rw [e] at hs; cases hs
    ·rename_i e; rw [e] at hs; cases hs
    ·obtain ⟨cur, ty, s1, s2, s3, _, s5⟩ := r
     exact ⟨cur, ty, s1, s2, s3, s5⟩
   obtain ⟨cur, ty, s1, s2, s3, s5⟩ := r3
   exact ⟨cur, ty, by rw [e1]; exact s1, by rw [e1]; exact s2, by rw [e2, e3]; show _ + d'.cells.length + 0 * _ ≤ _; omega, fun _ => e3, fun x v hv => by rw [e2]; exact s5 x v hv⟩
 ·obtain ⟨i', di, qi, g1, g2, g3, g4, g5, g6⟩ := blk i bi pi hi hpi
  obtain ⟨k', dk, qk, l1, l2, l3, l4, l5, l6⟩ := blk k bk pk hk hpk
  rw [← g3, ← l3]
  refine h.apart i' k' di dk qi qk g1 l1 (by rw [g4]; exact hbi) (fun e => hbk (l5 e)) ?_ g2 l2
  rcases g6 with ⟨rfl, x1⟩ | ⟨rfl, rfl⟩ <;> rcases l6 with ⟨rfl, y1⟩ | ⟨rfl, rfl⟩
  ·exact hik
  ·exact x1
  ·exact fun e => y1 e.symm
  ·exact absurd rfl hik
 ·obtain ⟨i, d, p, h1, h2, h3, h4⟩ := ho
  obtain ⟨i', d', p', g1, g2, g3, g4, _, _⟩ := blk i d p h1 h3
  exact ⟨i', d', p', g1, by rw [g4]; exact h2, g2, by rw [g3]; exact h4⟩
section
variable {P : Program} {nt : Nat} {ops : Array Oper} {t : Fm} {m : AM} {K : Fm → AM → Prop} {d T : Nat} {p : String} {af : Array Edge}
theorem Step.cutC {x y : Operand} {X e h b0 : Nat} {i : Int} {kk : IntKind} {u : Value} {l : List UInt8} (hx : evo t x = some u) (hy : evo t y = some (.int kk i)) (hr : RowC m b0 u l) (he : i = ((h : Nat) : Int)) (hh : h ≤ l.length) (hX : P.underlying X = some (.slice e)) (hsz : szB P e = some 1)
  (hlt : Nat.blt d nt = true) (hK : ∀ u', RowC m b0 u' (l.take h) → (∀ j, NotB u j → NotB u' j) → K (put t d u') m) : Step P nt ops ⟨some d, .slice X x none (some y) none, T, p, af, none⟩ t m K := by
 rcases hr with ⟨rfl, rfl⟩ | ⟨a, c, kd, sz, cs, h1, rfl, h3, h4, h5, h6⟩
 ·obtain rfl : h = 0 := by simpa using hh
  exact Step.slToNil hx hy he hX hsz hlt (hK _ .nil fun _ h => h)
 ·have hl : (l.take h).length = h := by rw [List.length_take]; omega
  refine Step.slTo hx hy he (by omega) hX hsz hlt (hK _ (.inr ⟨a, c, kd, sz, cs, h1, by rw [hl], by omega, h4, ?_, h6⟩) fun j hj => .ne (by rintro rfl; exact hj _ _ _ rfl))
  rw [hl]
  have : (cs.take l.length).take h = (by8 l).take h := by rw [h5]
  rw [List.take_take, Nat.min_eq_left hh] at this
  rw [this]
  simp [by8, List.map_take]
theorem Step.cutX {x y z : Operand} {X e h b0 : Nat} {i j : Int} {k1 k2 : IntKind} {u : Value} {l : List UInt8} (hx : evo t x = some u) (hy : evo t y = some (.int k1 i)) (hz : evo t z = some (.int k2 j)) (hr : RowC m b0 u l) (hi : i = ((h : Nat) : Int)) (hj : j = ((h : Nat) : Int)) (hh : h ≤ l.length) (hX : P.underlying X = some (.slice e)) (hsz : szB P e = some 1) (hb0 : b0 ≤ m.length)
  (hlt : Nat.blt d nt = true) (hK : ∀ u' M', RowC M' b0 u' (l.take h) → m.length ≤ M'.length → (∀ j, j < m.length → NotB u j → M'[j]? = m[j]?) → (∀ j, j < m.length → NotB u j → NotB u' j) → K (put t d u') M') : Step P nt ops ⟨some d, .slice X x none (some y) (some z), T, p, af, none⟩ t m K := by
 subst hi hj
 have b1 : bnd 0 (some (evD t y)) = some h := by rw [evD_of hy]; simp [bnd]
 have b2 : bnd 0 (some (evD t z)) = some h := by rw [evD_of hz]; simp [bnd]
 rcases hr with ⟨rfl, rfl⟩ | ⟨a, c, kd, sz, cs, h1, rfl, h3, h4, h5, h6⟩
 ·obtain rfl : h = 0 := by simpa using hh
  refine .l rfl rfl hlt (by simp [stillB, hX]) (by simp [Op.operands, hx, hy, hz]) (loud_of_aloud (v := .slice none 0 0) (m' := m ++ [none]) rfl ?_ (hK _ _ .nil (by simp) (fun j hj _ => List.getElem?_append_left hj) fun _ _ h => h))
  have b0' : bnd 0 (none : Option Value) = some 0 := by simp [bnd]
  simp only [aloud, evD_of hx, aslice, hX, hsz, Option.map_some, Option.map_none, b1, b2, b0']
  simp
 ·refine .l rfl rfl hlt (by simp [stillB, hX]) (by simp [Op.operands, hx, hy, hz]) ?_
  intro base R w bb Q next hb hm hev hn'
  have g1 := hev x (by simp [Op.operands])
  have g2 := hev y (by simp [Op.operands])
  have g3 := hev z (by simp [Op.operands])
  rw [evD_of hx] at g1
  rw [evD_of hy] at g2
  rw [evD_of hz] at g3
  obtain ⟨q, hq, ex⟩ : ∃ q, R a = some q ∧ bb.eval x = .slice (some ⟨q.block, q.off + 0, none⟩) l.length (c + q.extra) := by
   generalize bb.eval x = x' at g1
   cases g1 with
   | slice _ _ _ _ q hq hle => exact ⟨q, hq, rfl⟩
  have ey : bb.eval y = .int k1 ((h : Nat) : Int) := by
   generalize bb.eval y = y' at g2
   cases g2; rfl
  have ez : bb.eval z = .int k2 ((h : Nat) : Int) := by
   generalize bb.eval z = z' at g3
   cases g3; rfl
  have c0 : bnd 0 (none : Option Value) = some 0 := by simp [bnd]
  have c1 : bnd 0 (some (.int k1 ((h : Nat) : Int))) = some h := by simp [bnd]
  have c2 : bnd 0 (some (.int k2 ((h : Nat) : Int))) = some h := by simp [bnd]
  have hr : (Instr.sliceAt X (bb.eval x) none (some (bb.eval y)) (some (bb.eval z))).run P w = .ok (.slice (some ⟨q.block, q.off, none⟩) h h) w := by
   rw [ex, ey, ez]
   simp [Instr.sliceAt, Instr.slice, run_underlying hX, run_bounds3 (P := P) c0 c1 c2 (Nat.zero_le h) (Nat.le_refl h) (show h ≤ c + q.extra by omega), run_sizeOf' hsz]
   intro h0
   rfl
  have hx' : (execOp bb.eval ⟨some d, .slice X x none (some y) (some z), T, p, af, none⟩).run P w = .ok (.value (.slice (some ⟨q.block, q.off, none⟩) h h)) w := by simp [execOp, hr]
  have hal := (List.getElem?_eq_some_iff.1 h4).1
  have hp := Post.none_put hm ⟨q.block, q.off, 0⟩
  have hle := Pl.le_put R m.length ⟨q.block, q.off, 0⟩ (hm.none_ _ (Nat.le_refl _))
  have hp2 := Post.move hp.rep (a := a) (j := m.length) (q := q) (q' := ⟨q.block, q.off, 0⟩) (get_old _ h4) (by rcases h6 with ⟨rfl, _⟩ | ⟨rfl, _⟩ <;> rfl) (hle _ _ hq) (by rw [List.getElem?_append_right (Nat.le_refl _), Nat.sub_self]; rfl) (Pl.put_same _ _ _) rfl rfl rfl
  have hl : (l.take h).length = h := by rw [List.length_take]; omega
  refine wp_of_does rfl (.inl hx') (hn' (R.put m.length ⟨q.block, q.off, 0⟩) (.slice (some ⟨m.length, 0, none⟩) h h) _ _ w ?_ (hp.trans hp2) (hK _ _ (.inr ⟨m.length, h, .own, sz, cs, hb0, by rw [hl], by rw [hl]; exact Nat.le_refl _, List.getElem?_set_self (by simp), ?_, .inl ⟨rfl, ?_⟩⟩) (by simp) (fun j hj hn => ?_) fun j hj hn => .ne (by omega)))
  ·have := Rel.slice (R := R.put m.length ⟨q.block, q.off, 0⟩) m.length 0 h h ⟨q.block, q.off, 0⟩ (Pl.put_same _ _ _) (Nat.le_refl _)
   simpa using this
  ·rw [hl]
   have : (cs.take l.length).take h = (by8 l).take h := by rw [h5]
   rw [List.take_take, Nat.min_eq_left hh] at this
   rw [this]
   simp [by8, List.map_take]
  ·show h ≤ cs.length
   rcases h6 with ⟨_, h7⟩ | ⟨_, _, h7⟩ <;> omega
  ·have hja : j ≠ a := by rintro rfl; exact hn _ _ _ rfl
   rw [List.getElem?_set_ne (by omega), List.getElem?_set_ne (Ne.symm hja), List.getElem?_append_left hj]
theorem Step.appC {x y : Operand} {X Y e e' : TypeId} {by_ a o b0 : Nat} {z : Array Value} {l pp : List UInt8} {u yv : Value} (hx : evo t x = some u) (hy : evo t y = some yv) (hr : RowC m b0 u l) (hs : Sl yv a o pp.length) (hrd : 0 < pp.length → RdL m a o (by8 pp)) (hE : elemB P X = some (e, 1, by_, z)) (hY : P.underlying Y = some (.slice e'))
  (hb : (l.length + pp.length) * by_ ≤ 1099511627776 ∧ l.length + pp.length ≤ 1099511627776) (hlt : Nat.blt d nt = true) (hbm : b0 ≤ m.length)
  (hK : ∀ u' M', RowC M' b0 u' (l ++ pp) → m.length ≤ M'.length → (∀ j, j < m.length → NotB u j → M'[j]? = m[j]?) → (∀ j, j < m.length → NotB u j → NotB u' j) → K (put t d u') M') :
  Step P nt ops ⟨some d, .call ⟨.builtin .append, #[x, y], #[X, Y]⟩, T, p, af, none⟩ t m K := by
 obtain ⟨hc1, hc2⟩ := acells_sl (s := 1) hs hrd (by rw [by8_len, Nat.mul_one]) (by omega)
 have hn : (by8 pp).length = pp.length := by8_len _
 have fin : ∀ v m', aloud P ⟨some d, .call ⟨.builtin .append, #[x, y], #[X, Y]⟩, T, p, af, none⟩ (evD t) (m ++ [none]) m.length = some (v, m') → K (put t d v) m' → Step P nt ops ⟨some d, .call ⟨.builtin .append, #[x, y], #[X, Y]⟩, T, p, af, none⟩ t m K :=
  fun v m' h hk => .l rfl rfl hlt rfl (by simp [Op.operands, Call.operands, hx, hy]) (loud_of_aloud rfl h hk)
 have hnone : ¬ ((!((by8 pp).all (·.oneCell')) || (1 : Nat) == 0) = true) := by simp [by8_all]
 have set1 : ∀ (M : AM) (b : Blk), M.length = m.length → (M ++ [none]).set m.length (some b) = M ++ [some b] := fun M b h => by
  rw [List.set_append_right _ _ (by omega), h]
  simp
 by_cases hx0 : pp.length = 0
 ·obtain rfl := List.eq_nil_of_length_eq_zero hx0
  refine fin u (m ++ [none]) ?_ (hK _ _ (by rw [List.append_nil]; exact hr.old _) (by simp) (fun j hj _ => List.getElem?_append_left hj) fun _ _ h => h)
  rcases hr with ⟨rfl, rfl⟩ | ⟨q, c, kd, sz, cs, hq0, rfl, hq, hcl, hle, hkd⟩
  ·simp only [aloud, evD_of hx, evD_of hy, aappend, hE, hY, hc1, hc2]
   rw [if_neg hnone, if_pos (by simp)]
  ·simp only [aloud, evD_of hx, evD_of hy, aappend, hE, hY, hc1, hc2]
   rw [if_neg hnone, if_pos (by simp)]
 ·rcases hr with ⟨rfl, rfl⟩ | ⟨q, c, kd, sz, cs, hq0, rfl, hq, hcl, hle, hkd⟩
  ·refine fin (.slice (some ⟨m.length, 0, none⟩) pp.length pp.length) (m ++ [some { cells := by8 pp, kind := .grow, size := 1 }]) ?_ (hK _ _ (.inr ⟨m.length, pp.length, .grow, 1, by8 pp, hbm, by simp, by simp, by simp, by rw [List.nil_append, List.take_of_length_le (by rw [hn]; exact Nat.le_refl _)], .inr ⟨rfl, rfl, hn.symm⟩⟩) (by simp) (fun j hj _ => List.getElem?_append_left hj) fun j hj _ => .ne (by omega))
   simp only [aloud, evD_of hx, evD_of hy, aappend, hE, hY, hc1, hc2]
   rw [if_neg hnone, if_neg hx0, if_pos (by simpa using hb), set1 m _ rfl]
  ·have hg : (m ++ [none])[q]? = some (some { cells := cs, kind := kd, size := sz }) := get_old _ hcl
   have hql := (List.getElem?_eq_some_iff.1 hcl).1
   have hll : (l ++ pp).length = l.length + pp.length := List.length_append
   have htk : (by8 l ++ by8 pp).take (l ++ pp).length = by8 (l ++ pp) := by rw [← by8_app, List.take_of_length_le (by rw [by8_len]; exact Nat.le_refl _)]
   by_cases hroom : l.length + pp.length ≤ c
   ·have hccs : c ≤ cs.length := by rcases hkd with ⟨_, h7⟩ | ⟨_, _, h7⟩ <;> omega
    have hsol : kd.solid = true := by rcases hkd with ⟨rfl, _⟩ | ⟨rfl, _⟩ <;> rfl
    have hspl : (splice cs (0 + l.length * 1) (by8 pp)).length = cs.length := by
     unfold splice
     simp only [List.length_append, List.length_take, List.length_drop]
     omega
    have hspt : (splice cs (0 + l.length * 1) (by8 pp)).take (l ++ pp).length = by8 (l ++ pp) := by
     rw [by8_app, hll]
     unfold splice
     rw [Nat.zero_add, Nat.mul_one, hle, List.append_assoc, List.take_append, by8_len, Nat.add_sub_cancel_left, List.take_of_length_le (by rw [by8_len]; omega), List.take_append, hn, Nat.sub_self, List.take_zero, List.append_nil, List.take_of_length_le (by rw [hn]; omega)]
    refine fin (.slice (some ⟨q, 0, none⟩) (l.length + pp.length) c) ((m ++ [none]).set q (some { cells := splice cs (0 + l.length * 1) (by8 pp), kind := kd, size := sz })) ?_ (hK _ _ (.inr ⟨q, c, kd, sz, _, hq0, by rw [hll], by rw [hll]; exact hroom, List.getElem?_set_self (by simp; omega), hspt, ?_⟩) (by simp) (fun j hj hne => ?_) fun j hj hne => .ne (by rintro rfl; exact hne _ _ _ rfl))
    ·simp only [aloud, evD_of hx, evD_of hy, aappend, hE, hY, hc1, hc2]
     rw [if_neg hnone, if_neg hx0]
     simp only [hg]
     rw [if_pos hroom, if_pos (by simp [hsol, hn]; omega)]
    ·rw [hspl]; exact hkd
    ·rw [List.getElem?_set_ne (by rintro rfl; exact hne _ _ _ rfl), List.getElem?_append_left hj]
   ·rcases hkd with ⟨rfl, h7⟩ | ⟨rfl, rfl, h7⟩
    ·refine fin (.slice (some ⟨m.length, 0, none⟩) (l.length + pp.length) (l.length + pp.length)) (m ++ [some { cells := by8 l ++ by8 pp, kind := .grow, size := 1 }]) ?_ (hK _ _ (.inr ⟨m.length, l.length + pp.length, .grow, 1, by8 l ++ by8 pp, hbm, by rw [hll], by rw [hll]; exact Nat.le_refl _, by simp, htk, .inr ⟨rfl, rfl, by simp [by8_len]⟩⟩) (by simp) (fun j hj _ => List.getElem?_append_left hj) fun j hj _ => .ne (by omega))
     simp only [aloud, evD_of hx, evD_of hy, aappend, hE, hY, hc1, hc2]
     rw [if_neg hnone, if_neg hx0]
     simp only [hg]
     rw [if_neg hroom, if_pos ⟨hb.1, hb.2, hq⟩, if_pos (by omega), set1 m _ rfl]
     simp [hle]
    ·refine fin (.slice (some ⟨m.length, 0, none⟩) (l.length + pp.length) (l.length + pp.length)) ((m.set q none) ++ [some { cells := by8 l ++ by8 pp, kind := .grow, size := 1 }]) ?_ (hK _ _ (.inr ⟨m.length, l.length + pp.length, .grow, 1, by8 l ++ by8 pp, hbm, by rw [hll], by rw [hll]; exact Nat.le_refl _, by simp, htk, .inr ⟨rfl, rfl, by simp [by8_len]⟩⟩) (by simp) (fun j hj hne => ?_) fun j hj _ => .ne (by omega))
     ·simp only [aloud, evD_of hx, evD_of hy, aappend, hE, hY, hc1, hc2]
      rw [if_neg hnone, if_neg hx0]
      simp only [hg]
      rw [if_neg hroom, if_pos ⟨hb.1, hb.2, hq⟩, if_pos ⟨by omega, trivial⟩, List.set_append_left _ _ hql, set1 (m.set q none) _ (by simp)]
      simp [hle]
     ·rw [List.getElem?_append_left (by simpa using hj), List.getElem?_set_ne]
      rintro rfl
      exact hne _ _ _ rfl
end
def slF : Array Field := #[⟨"place", 3, 0, false, "", "trank/stock", 0⟩, ⟨"item", 3, 1, false, "", "trank/stock", 8⟩]
theorem un155 : Try.prog.underlying 155 = some (.struct slF) := by kernel_rfl
theorem un136 : Try.prog.underlying 136 = some (.map 155 4) := by kernel_rfl
def slotV (k : Int × Int) : Value := .agg #[.int .i64 k.1, .int .i64 k.2]
theorem forIn2 {α σ : Type} (x y : α) (s : σ) (f : α → σ → Sem (ForInStep σ)) : (forIn #[x, y] s f : Sem σ) = (do match ← f x s with | .done b => pure b | .yield b => match ← f y b with | .done b => pure b | .yield b => pure b) := by
 simp [List.forIn_cons, List.forIn_nil]
 exact congrArg (fun g => f x s >>= g) (funext fun u' => by
  cases u' with
  | done b => rfl
  | yield b => exact congrArg (fun g => f y b >>= g) (funext fun v => by cases v <;> rfl))
theorem still_chkI (e : Bool) (n : Nat) (x : Int) : Sim.still Try.prog (Instr.checkKey e (n + 1) 3 (.int .i64 x)) = some () := by
 rw [Instr.checkKey]
 show Sim.still Try.prog (Sem.bind (underlying 3) _) = _
 rw [still_bind, still_und un3]
 rfl
theorem still_chk (e : Bool) (n : Nat) (k : Int × Int) : Sim.still Try.prog (Instr.checkKey e (n + 1 + 1) 155 (slotV k)) = some () := by
 obtain ⟨a, b⟩ := k
 have p0 := part_tr (c := #[.int .i64 a, .int .i64 b]) (k := 0) rfl
 have p1 := part_tr (c := #[.int .i64 a, .int .i64 b]) (k := 1) rfl
 have h3 := fun x => still_chkI e n x
 rw [Instr.checkKey]
 show Sim.still Try.prog (Sem.bind (underlying 155) _) = _
 rw [still_bind, still_und un155]
 unfold slF slotV
 simp only [forIn2]
 simp [bind, still_bind, p0, p1, h3, pure, Sim.still]
theorem run_chk (e : Bool) (k : Int × Int) (w : World) : (Instr.checkKey e 10000 155 (slotV k)).run Try.prog w = .ok () w := still_run _ _ _ (still_chk e 9998 k) w
theorem still_eqS (n : Nat) (k k' : Int × Int) : Sim.still Try.prog (Op.equalIn (n + 1 + 1) 155 (slotV k) (slotV k')) = some (k == k') := by
 obtain ⟨a, b⟩ := k
 obtain ⟨a', b'⟩ := k'
 have hs : Try.prog.stoodInHeld 155 = false := by kernel_rfl
 have p0 := part_tr (c := #[.int .i64 a, .int .i64 b]) (k := 0) rfl
 have p1 := part_tr (c := #[.int .i64 a, .int .i64 b]) (k := 1) rfl
 have q0 := part_tr (c := #[.int .i64 a', .int .i64 b']) (k := 0) rfl
 have q1 := part_tr (c := #[.int .i64 a', .int .i64 b']) (k := 1) rfl
 have h3 := fun (x y : Int) => still_eqI (P := Try.prog) un3 n x y
 rw [Op.equalIn]
 show Sim.still Try.prog (Sem.bind (underlying 155) _) = _
 rw [still_bind, still_und un155]
 show Sim.still Try.prog (Sem.bind program _) = _
 have hp : Sim.still Try.prog program = some Try.prog := rfl
 rw [still_bind, hp]
 simp only [hs]
 unfold slF
 simp only [forIn2]
 have e : ((a, b) == (a', b')) = (a == a' && b == b') := rfl
 rw [e]
 cases h1 : (a == a') <;> cases h2 : (b == b') <;> simp [bind, still_bind, p0, p1, q0, q1, h3, h1, h2, pure, Sim.still]
theorem run_eqS (k k' : Int × Int) (w : World) : (Op.equal 155 (slotV k) (slotV k')).run Try.prog w = .ok (k == k') w := still_run _ _ _ (still_eqS 9998 k k') w
abbrev Ents := List ((Int × Int) × Bool)
def entsV (E : Ents) : List (Value × Value) := E.map fun e => (slotV e.1, .bool e.2)
def mapB (E : Ents) : Blk := { cells := [], kind := .map, ents := entsV E }
theorem entsV_get (E : Ents) (j : Nat) : (entsV E)[j]? = (E[j]?).map fun e => (slotV e.1, .bool e.2) := by simp [entsV]
theorem slot_g1 (k : Int × Int) : g1 (slotV k) = true := by simp [slotV, g1, g0]
def idxE (E : Ents) (k : Int × Int) : Option Nat := E.findIdx? fun e => k == e.1
theorem run_ask (w : World) (k : Int × Int) : ∀ (E : Ents) (es : List MapEntry) (i : Nat), es.length = E.length → (∀ (j : Nat) (e : (Int × Int) × Bool), E[j]? = some e → ∃ x : MapEntry, es[j]? = some x ∧ x.key = slotV e.1) →
  (∃ (j : Nat) (x : MapEntry), idxE E k = some j ∧ es[j]? = some x ∧ (Instr.findAsking 155 (slotV k) es i).run Try.prog w = .ok (some (i + j, x.val)) w) ∨ (idxE E k = none ∧ (Instr.findAsking 155 (slotV k) es i).run Try.prog w = .ok none w)
 | [], [], i, _, _ => .inr ⟨rfl, rfl⟩
 | [], _ :: _, _, h, _ => by simp at h
 | _ :: _, [], _, h, _ => by simp at h
 | e :: E, x :: es, i, h, hj => by
  obtain ⟨x', h1, h2⟩ := hj 0 e rfl
  simp at h1; subst h1
  have hrun := run_eqS k e.1 w
  unfold Instr.findAsking idxE
  rw [List.findIdx?_cons]
  simp only [Sem.run_bind, h2, hrun, Result.andThen]
  cases hk : (k == e.1) with
  | true => exact .inl ⟨0, x, rfl, rfl, rfl⟩
  | false =>
   simp only [Bool.false_eq_true, if_false]
   rcases run_ask w k E es (i + 1) (by simpa using h) (fun j e hE => hj (j + 1) e hE) with ⟨j, y, q1, q2, q3⟩ | ⟨q1, q2⟩
   ·refine .inl ⟨j + 1, y, ?_, q2, ?_⟩
    ·unfold idxE at q1; rw [q1]; rfl
    ·rw [q3, show i + 1 + j = i + (j + 1) by omega]
   ·refine .inr ⟨?_, q2⟩
    unfold idxE at q1; rw [q1]; rfl
theorem run_findS (w : World) (k : Int × Int) (E : Ents) (es : List MapEntry) (hl : es.length = E.length) (hj : ∀ (j : Nat) (e : (Int × Int) × Bool), E[j]? = some e → ∃ x : MapEntry, es[j]? = some x ∧ x.key = slotV e.1) :
  (∃ (j : Nat) (x : MapEntry), idxE E k = some j ∧ es[j]? = some x ∧ (Instr.findKey 155 (slotV k) es).run Try.prog w = .ok (some (j, x.val)) w) ∨ (idxE E k = none ∧ (Instr.findKey 155 (slotV k) es).run Try.prog w = .ok none w) := by
 have ha := run_ask w k E es 0 hl hj
 cases es with
 | nil =>
  have : E = [] := List.eq_nil_of_length_eq_zero (by simpa using hl.symm)
  subst this
  refine .inr ⟨rfl, ?_⟩
  simp [Instr.findKey, run_underlying un155, Instr.findNow, Result.andThen]
 | cons x es =>
  have hn : Instr.findNow (.struct slF) (slotV k) (x :: es) 0 = none := by
   unfold Instr.findNow
   rfl
  have e : (Instr.findKey 155 (slotV k) (x :: es)).run Try.prog w = (Instr.findAsking 155 (slotV k) (x :: es) 0).run Try.prog w := by
   simp only [Instr.findKey, Sem.run_bind, run_underlying un155, Result.andThen, hn]
  rw [e]
  simpa only [Nat.zero_add] using ha
theorem same_slot (k : Int × Int) : Instr.sameBits 10000 (slotV k) (slotV k) = true := by
 unfold slotV
 simp [Instr.sameBits]
theorem run_stays (k : Int × Int) (w : World) : (Instr.keyThatStays (slotV k) (slotV k)).run Try.prog w = .ok (slotV k) w := by
 simp [Instr.keyThatStays, same_slot]
def setE (E : Ents) (k : Int × Int) (b : Bool) : Ents := match idxE E k with
 | some j => E.set j (k, b)
 | none => E ++ [(k, b)]
theorem idxE_some {E : Ents} {k : Int × Int} {j : Nat} (h : idxE E k = some j) : ∃ b, E[j]? = some (k, b) := by
 unfold idxE at h
 obtain ⟨hj, h1, _⟩ := List.findIdx?_eq_some_iff_getElem.1 h
 refine ⟨E[j].2, ?_⟩
 rw [List.getElem?_eq_getElem hj]
 have : k = E[j].1 := by simpa using h1
 rw [this]
theorem mem_set_fst {E : Ents} {k : Int × Int} {j : Nat} {b b' : Bool} (h : E[j]? = some (k, b)) : (E.set j (k, b')).map Prod.fst = E.map Prod.fst := by
 rw [List.map_set]
 apply List.ext_getElem?
 intro i
 by_cases e : j = i
 ·subst e
  have hl := (List.getElem?_eq_some_iff.1 h).1
  rw [List.getElem?_set_self (by simpa using hl), List.getElem?_map, h]
  rfl
 ·rw [List.getElem?_set_ne e]
theorem setE_fst (E : Ents) (k : Int × Int) (b : Bool) (x : Int × Int) : x ∈ (setE E k b).map Prod.fst ↔ x ∈ E.map Prod.fst ∨ x = k := by
 unfold setE
 cases h : idxE E k with
 | some j =>
  obtain ⟨b', hb⟩ := idxE_some h
  simp only
  rw [mem_set_fst hb]
  exact ⟨.inl, fun q => q.elim id fun q => by rw [q]; exact List.mem_map.2 ⟨_, List.mem_of_getElem? hb, rfl⟩⟩
 | none => simp
section
variable {base : Nat} {R : Pl} {m : AM} {w : World}
theorem post_map (h : MRep base R m w) {i : Nat} {E : Ents} {p : Sim.Place} (hi : m[i]? = some (some (mapB E))) (hp : R i = some p) : ∃ es : Array MapEntry, w.heap[p.block]? = some (.map es es.size) ∧ RelE R (entsV E) es.toList ∧
  ∀ (E' : Ents) (fs : Array MapEntry), RelE R (entsV E') fs.toList → Post base m (m.set i (some (mapB E'))) R R w { w with heap := w.heap.setIfInBounds p.block (.map fs fs.size) } := by
 have hbr := h.of hi hp
 unfold BRep at hbr
 obtain ⟨hlt, hc, hex, hbs, es, hob, hre⟩ := hbr
 refine ⟨es, hob, hre, fun E' fs hfs => ?_⟩
 have hs := MapKept.heap_set (o' := .map fs fs.size) hob
 have hmine : (mapB E).kind.mine = true := rfl
 refine ⟨.refl R, h.turn hi hmine hp _ rfl ?_ ?_ ?_, rfl, rfl, rfl, by simp, fun k' hk' ho => ?_, fun k' ho => ?_⟩
 ·refine ⟨by simpa using hlt, ?_⟩
  exact ⟨hc, hex, hbs, fs, hs.1, hfs⟩
 ·intro k' hne; exact hs.2 k' hne
 ·simp
 ·exact hs.2 k' fun e => ho ⟨i, _, p, hi, hmine, hp, e.symm⟩
 ·refine .inr ?_
  obtain ⟨j, c, q, q1, q2, q3, q4⟩ := ho
  by_cases e : j = i
  ·subst e; exact ⟨j, _, q, hi, hmine, q3, q4⟩
  ·rw [List.getElem?_set_ne (fun x => e x.symm)] at q1
   exact ⟨j, c, q, q1, q2, q3, q4⟩
theorem RelE.len {E : Ents} {es : List MapEntry} (h : RelE R (entsV E) es) : es.length = E.length := by
 rw [← h.1]; simp [entsV]
theorem RelE.at_ {E : Ents} {es : List MapEntry} (h : RelE R (entsV E) es) : ∀ (j : Nat) (e : (Int × Int) × Bool), E[j]? = some e → ∃ x : MapEntry, es[j]? = some x ∧ x.key = slotV e.1 ∧ x.born = j ∧ x.val = .bool e.2 := fun j e hj => by
 obtain ⟨x, h1, h2, h3, h4⟩ := h.2 j (slotV e.1) (.bool e.2) (by rw [entsV_get, hj]; rfl)
 refine ⟨x, h1, h2, h3, ?_⟩
 cases hx : x.val <;> rw [hx] at h4 <;> cases h4
 rfl
theorem RelE.mk {E : Ents} {es : List MapEntry} (hl : es.length = E.length) (h : ∀ (j : Nat) (e : (Int × Int) × Bool), E[j]? = some e → ∃ x : MapEntry, es[j]? = some x ∧ x.key = slotV e.1 ∧ x.born = j ∧ x.val = .bool e.2) : RelE R (entsV E) es := by
 refine ⟨by simp [entsV, hl], fun j k v hj => ?_⟩
 rw [entsV_get] at hj
 cases he : E[j]? with
 | none => rw [he] at hj; cases hj
 | some e =>
  rw [he] at hj
  simp only [Option.map_some, Option.some.injEq, Prod.mk.injEq] at hj
  obtain ⟨rfl, rfl⟩ := hj
  obtain ⟨x, h1, h2, h3, h4⟩ := h j e he
  exact ⟨x, h1, h2, h3, by rw [h4]; exact .bool _⟩
theorem RelE.push {E : Ents} {es : Array MapEntry} (h : RelE R (entsV E) es.toList) (k : Int × Int) (b : Bool) : RelE R (entsV (E ++ [(k, b)])) (es.push { key := slotV k, val := .bool b, born := es.size }).toList := by
 have hl := RelE.len h
 refine RelE.mk (by simpa using hl) fun j e hj => ?_
 rw [Array.toList_push]
 by_cases h1 : j < E.length
 ·rw [List.getElem?_append_left h1] at hj
  rw [List.getElem?_append_left (by omega)]
  exact RelE.at_ h j e hj
 ·have hj1 := (List.getElem?_eq_some_iff.1 hj).1
  obtain rfl : j = E.length := by simp at hj1; omega
  rw [List.getElem?_append_right (by omega)] at hj
  simp at hj
  subst hj
  rw [List.getElem?_append_right (by omega), hl]
  refine ⟨_, by simp; rfl, rfl, ?_, rfl⟩
  simpa using hl
theorem RelE.setv {E : Ents} {es : Array MapEntry} {k : Int × Int} {b b' : Bool} {j : Nat} (h : RelE R (entsV E) es.toList) (hj : E[j]? = some (k, b')) : RelE R (entsV (E.set j (k, b))) (es.modify j fun e => { e with key := slotV k, val := .bool b }).toList := by
 have hl := RelE.len h
 have hjl := (List.getElem?_eq_some_iff.1 hj).1
 refine RelE.mk (by simpa using hl) fun i e hi => ?_
 by_cases e2 : j = i
 ·subst e2
  rw [List.getElem?_set_self hjl] at hi
  injection hi with hi; subst hi
  obtain ⟨x, h1, h2, h3, h4⟩ := RelE.at_ h j _ hj
  refine ⟨{ x with key := slotV k, val := .bool b }, ?_, rfl, h3, rfl⟩
  have : es[j]? = some x := by simpa using h1
  simp [Array.getElem?_modify, this]
 ·rw [List.getElem?_set_ne e2] at hi
  obtain ⟨x, h1, h2, h3, h4⟩ := RelE.at_ h i e hi
  refine ⟨x, ?_, h2, h3, h4⟩
  have : es[i]? = some x := by simpa using h1
  simp [Array.getElem?_modify, e2, this]
end
open Go.ChangeMaps (setBlock)
theorem RelE.born {R : Pl} {l : List (Value × Value)} {es : Array MapEntry} (h : RelE R l es.toList) : (∀ x ∈ es.toList, x.born < l.length ∧ ∃ k v, l[x.born]? = some (k, v) ∧ x.key = k ∧ Rel R v x.val) ∧ (es.toList.map (·.born)).Nodup := by
 have hb : es.toList.map (·.born) = List.range es.toList.length := by
  apply List.ext_getElem?
  intro j
  rw [List.getElem?_map]
  by_cases hj : j < es.toList.length
  ·rw [List.getElem?_range hj]
   have hl : j < l.length := by rw [h.1]; exact hj
   obtain ⟨e, h1, _, h3, _⟩ := h.2 j l[j].1 l[j].2 (List.getElem?_eq_getElem hl)
   rw [h1, Option.map_some, h3]
  ·rw [List.getElem?_eq_none (by omega), List.getElem?_eq_none (by simpa using hj)]; rfl
 refine ⟨fun x hx => ?_, by rw [hb]; exact List.nodup_range⟩
 obtain ⟨j, hj, rfl⟩ := List.getElem_of_mem hx
 have hl : j < l.length := by rw [h.1]; exact hj
 obtain ⟨e, h1, h2, h3, h4⟩ := h.2 j l[j].1 l[j].2 (List.getElem?_eq_getElem hl)
 rw [List.getElem?_eq_getElem hj] at h1
 injection h1 with h1
 rw [h1, h3]
 exact ⟨hl, _, _, List.getElem?_eq_getElem hl, h2, h4⟩
section
variable {P : Program} {nt : Nat} {ops : Array Oper}
end
section
variable {P : Program} {nt : Nat} {m0 m : AM} {t : Fm}
theorem FR.cons {R : Pl} {l : List (Nat × Value)} {u : Array Value} {d : Nat} {v : Value} (h : FR R nt (Abs.put t d v) u) (hl : All (fun i v => t i = some v) l) : FR R nt (fr ((d, v) :: l)) u := by
 refine h.weak fun i x hi => ?_
 by_cases e : i = d
 ·subst e
  simp only [fr, put_same] at hi ⊢
  exact hi
 ·simp only [fr, put_ne _ _ e] at hi ⊢
  exact fr_all hl i x hi
end
section
variable {P : Program} {nt : Nat} {m0 m : AM}
end
section
variable {P : Program} {nt : Nat} {m0 m : AM} {t : Fm} {Q : AEx → Fm → AM → Prop}
end
end Go.Proofs.Ytabdnepfcohncaa.Abs
namespace Go.Proofs.Ytabdnepfcohncaa.Abs
set_option linter.unusedSimpArgs false
set_option linter.unusedVariables false
open Go.RowKit
open Go.Proofs.Ytabdnepfcohncaa.Sim
open Go.Proofs
section
variable {nt : Nat} {ops : Array Oper} {t : Fm} {m : AM} {K : Fm → AM → Prop} {d T : Nat} {p : String} {af : Array Edge}
theorem rel_slot {R : Pl} {k : Int × Int} {v : Value} (h : Rel R (slotV k) v) : v = slotV k := g1_eq (slot_g1 k) h
set_option maxRecDepth 100000 in
theorem Step.mapSet {x y z : Operand} {q : Nat} {k : Int × Int} {b : Bool} {E : Ents} (hx : evo t x = some (.map (some q))) (hy : evo t y = some (slotV k)) (hz : evo t z = some (.bool b)) (hq : m[q]? = some (some (mapB E))) (hK : K t (m.set q (some (mapB (setE E k b))))) :
  Step Try.prog nt ops ⟨none, .mapUpdate 136 x y z, T, p, af, none⟩ t m K := by
 refine .l0 rfl rfl rfl (by simp [Op.operands, hx, hy, hz]) ?_
 intro base R w a Q next hb hm hev hn
 have h1 := hev x (by simp [Op.operands])
 have h2 := hev y (by simp [Op.operands])
 have h3 := hev z (by simp [Op.operands])
 rw [evD_of hx] at h1
 rw [evD_of hy] at h2
 rw [evD_of hz] at h3
 have e2 := rel_slot h2
 have e3 : a.eval z = .bool b := by generalize a.eval z = u at h3; cases h3; rfl
 obtain ⟨pq, e1, hpq⟩ : ∃ pq, a.eval x = .map (some pq.block) ∧ R q = some pq := by
  generalize a.eval x = u at h1
  cases h1 with
  | mapAt _ p h => exact ⟨p, rfl, h⟩
 obtain ⟨es, hob, hre, post⟩ := post_map hm hq hpq
 have hl := RelE.len hre
 have hfind := run_findS w k E es.toList hl fun j e hj => by obtain ⟨x, q1, q2, _⟩ := RelE.at_ hre j e hj; exact ⟨x, q1, q2⟩
 have hck := run_chk false k w
 rcases hfind with ⟨j, x', i1, i2, i3⟩ | ⟨i1, i3⟩
 ·obtain ⟨b', hj⟩ := idxE_some i1
  have hset : setE E k b = E.set j (k, b) := by unfold setE; rw [i1]
  rw [hset] at hK
  obtain ⟨x2, w1, w2, _, _⟩ := RelE.at_ hre j _ hj
  rw [i2] at w1; injection w1 with w1; subst w1
  have hx2 : es[j]? = some x' := by simpa using i2
  have hp := post (E.set j (k, b)) _ (RelE.setv (b := b) hre hj)
  refine wp_of_does rfl (v' := undef) (.inr ⟨?_, rfl⟩) (hn R undef undef _ _ (.undef R) hp hK)
  simp [execOp, e1, e2, e3, Instr.mapUpdate, run_underlying un136, MapKept.run_getObj_map hob, hck, i3, hx2, w2, run_stays, MapKept.run_setObj_map _ hob, Result.andThen]
 ·have hset : setE E k b = E ++ [(k, b)] := by unfold setE; rw [i1]
  rw [hset] at hK
  have hp := post (E ++ [(k, b)]) _ (RelE.push hre k b)
  refine wp_of_does rfl (v' := undef) (.inr ⟨?_, rfl⟩) (hn R undef undef _ _ (.undef R) hp hK)
  simp [execOp, e1, e2, e3, Instr.mapUpdate, run_underlying un136, MapKept.run_getObj_map hob, hck, i3, MapKept.run_setObj_map _ hob, Result.andThen]
theorem Step.mapSetP {x y z : Operand} {q : Nat} {u v : Int} {b : Bool} {E : Ents} (hx : evo t x = some (.map (some q))) (hy : evo t y = some (.agg #[.int .i64 u, .int .i64 v])) (hz : evo t z = some (.bool b)) (hq : m[q]? = some (some (mapB E))) (hK : K t (m.set q (some (mapB (setE E (u, v) b))))) :
  Step Try.prog nt ops ⟨none, .mapUpdate 136 x y z, T, p, af, none⟩ t m K := .mapSet hx (k := (u, v)) hy hz hq hK
end
structure Ck where
 at_ : Nat
 V : List Int
 seen : List (Int × Int)
 mv : List Tr
 done : Bool
def ckc (bk at_ : Nat) (V : List Int) (q : Nat) (mvv : Value) (done : Bool) : List Value := .pointer (some ⟨bk, 0, none⟩) :: .int .i64 (at_ : Nat) :: (iv V ++ [.map (some q), mvv, .bool done])
theorem ckc_len {bk at_ q : Nat} {V : List Int} {mvv : Value} {done : Bool} (hV : V.length = 256) : (ckc bk at_ V q mvv done).length = 261 := by simp [ckc, iv_len, hV]
theorem ckc_0 {bk at_ q : Nat} {V : List Int} {mvv : Value} {done : Bool} : (ckc bk at_ V q mvv done)[0]? = some (.pointer (some ⟨bk, 0, none⟩)) := rfl
theorem ckc_1 {bk at_ q : Nat} {V : List Int} {mvv : Value} {done : Bool} : (ckc bk at_ V q mvv done)[1]? = some (.int .i64 (at_ : Nat)) := rfl
theorem ckc_V {bk at_ q : Nat} {V : List Int} {mvv : Value} {done : Bool} {k : Nat} (hk : k < V.length) : (ckc bk at_ V q mvv done)[2 + k]? = some (.int .i64 (V.getD k 0)) := by
 unfold ckc
 rw [show 2 + k = k + 1 + 1 by omega, List.getElem?_cons_succ, List.getElem?_cons_succ, List.getElem?_append_left (by rw [iv_len]; exact hk)]
 exact iv_get hk
theorem ckc_r {bk at_ q : Nat} {V : List Int} {mvv : Value} {done : Bool} (hV : V.length = 256) (j : Nat) : (ckc bk at_ V q mvv done)[258 + j]? = [.map (some q), mvv, .bool done][j]? := by
 unfold ckc
 rw [show 258 + j = (256 + j) + 1 + 1 by omega, List.getElem?_cons_succ, List.getElem?_cons_succ, List.getElem?_append_right (by rw [iv_len]; omega), iv_len, hV, show 256 + j - 256 = j by omega]
theorem ckc_q {bk at_ q : Nat} {V : List Int} {mvv : Value} {done : Bool} (hV : V.length = 256) : (ckc bk at_ V q mvv done)[258]? = some (.map (some q)) := ckc_r hV 0
theorem ckc_m {bk at_ q : Nat} {V : List Int} {mvv : Value} {done : Bool} (hV : V.length = 256) : (ckc bk at_ V q mvv done)[259]? = some mvv := ckc_r hV 1
theorem ckc_d {bk at_ q : Nat} {V : List Int} {mvv : Value} {done : Bool} (hV : V.length = 256) : (ckc bk at_ V q mvv done)[260]? = some (.bool done) := ckc_r hV 2
theorem ckc_set {bk at_ q : Nat} {V : List Int} {mvv : Value} {done : Bool} (hV : V.length = 256) (j : Nat) (v : Value) : (ckc bk at_ V q mvv done).set (258 + j) v = .pointer (some ⟨bk, 0, none⟩) :: .int .i64 (at_ : Nat) :: (iv V ++ [.map (some q), mvv, .bool done].set j v) := by
 unfold ckc
 rw [show 258 + j = (256 + j) + 1 + 1 by omega, List.set_cons_succ, List.set_cons_succ, List.set_append_right _ _ (by rw [iv_len]; omega), iv_len, hV, show 256 + j - 256 = j by omega]
theorem ckc_setM {bk at_ q : Nat} {V : List Int} {mvv u : Value} {done : Bool} (hV : V.length = 256) : (ckc bk at_ V q mvv done).set 259 u = ckc bk at_ V q u done := ckc_set hV 1 u
theorem ckc_setV {bk at_ q : Nat} {V V' : List Int} {mvv : Value} {done : Bool} (hV : V.length = 256) (hV' : V'.length = 256) : splice (ckc bk at_ V q mvv done) 2 (iv V') = ckc bk at_ V' q mvv done := by
 unfold ckc splice
 rw [iv_len, hV']
 show [Value.pointer (some ⟨bk, 0, none⟩), Value.int .i64 (at_ : Nat)] ++ iv V' ++ (iv V ++ [.map (some q), mvv, .bool done]).drop 256 = _
 rw [List.drop_append, List.drop_eq_nil_of_le (by rw [iv_len]; omega), iv_len, hV]
 simp
structure ClerkAt (M : AM) (ck q : Nat) (mvv : Value) (bk : Nat) (K : Ck) : Prop where
 cells : M[ck]? = some (some { cells := ckc bk K.at_ K.V q mvv K.done })
 lV : K.V.length = 256
 lb : bk < M.length
 map : ∃ E, M[q]? = some (some (mapB E)) ∧ ∀ x, x ∈ E.map Prod.fst ↔ x ∈ K.seen
 row : Row M 0 4 mvv (tcs K.mv) K.mv.length
theorem ClerkAt.lt {M : AM} {ck q bk : Nat} {mvv : Value} {K : Ck} (h : ClerkAt M ck q mvv bk K) : ck < M.length := (List.getElem?_eq_some_iff.1 h.cells).1
theorem ClerkAt.ltq {M : AM} {ck q bk : Nat} {mvv : Value} {K : Ck} (h : ClerkAt M ck q mvv bk K) : q < M.length := by
 obtain ⟨E, h1, _⟩ := h.map
 exact (List.getElem?_eq_some_iff.1 h1).1
theorem ClerkAt.ne {M : AM} {ck q bk : Nat} {mvv : Value} {K : Ck} (h : ClerkAt M ck q mvv bk K) : ck ≠ q := by
 rintro rfl
 obtain ⟨E, h1, _⟩ := h.map
 rw [h.cells] at h1
 simp [mapB, ckc] at h1
theorem ClerkAt.apart {M : AM} {ck q bk : Nat} {mvv : Value} {K : Ck} (h : ClerkAt M ck q mvv bk K) : NotOf mvv ck ∧ NotOf mvv q := by
 constructor
 ·intro n c e
  rcases h.row with ⟨e', _⟩ | ⟨a, kd, sz, _, e', h3, h4, _⟩
  ·rw [e'] at e; cases e
  ·rw [e'] at e
   simp only [Value.slice.injEq, Option.some.injEq, Addr.mk.injEq] at e
   obtain ⟨⟨rfl, _⟩, _⟩ := e
   rw [h.cells] at h3
   simp only [Option.some.injEq, Blk.mk.injEq] at h3
   have h5 := h3.1
   cases hm : K.mv with
   | nil => rw [hm] at h5; simp [ckc, tcs] at h5
   | cons x l => rw [hm] at h5; simp [ckc, tcs, Tr.c] at h5
 ·intro n c e
  obtain ⟨E, h1, _⟩ := h.map
  rcases h.row with ⟨e', _⟩ | ⟨a, kd, sz, _, e', h3, h4, h5⟩
  ·rw [e'] at e; cases e
  ·rw [e'] at e
   simp only [Value.slice.injEq, Option.some.injEq, Addr.mk.injEq] at e
   obtain ⟨⟨rfl, _⟩, _⟩ := e
   rw [h1] at h3
   simp only [Option.some.injEq, mapB, Blk.mk.injEq] at h3
   obtain ⟨_, h6, _⟩ := h3
   rcases h5 with e | ⟨e, _⟩ <;> (rw [e] at h6; cases h6)
theorem ClerkAt.msub {M M' : AM} {ck q bk : Nat} {mvv : Value} {K : Ck} (h : ClerkAt M ck q mvv bk K) (hs : MSub M M') : ClerkAt M' ck q mvv bk K := by
 obtain ⟨h1, h2, h3, ⟨E, h4, h5⟩, h6⟩ := h
 exact ⟨hs.get _ _ rfl h1, h2, by have := hs.len; omega, ⟨E, hs.get _ _ rfl h4, h5⟩, h6.msub hs⟩
theorem ClerkAt.old {M : AM} {ck q bk : Nat} {mvv : Value} {K : Ck} (h : ClerkAt M ck q mvv bk K) (T : AM) : ClerkAt (M ++ T) ck q mvv bk K := h.msub (Sub.app M T).m
def ckD (ck q : Nat) (mvv : Value) : Nat → Prop := fun j => j = ck ∨ j = q ∨ ¬ NotOf mvv j
theorem ClerkAt.in_ {S : Nat → Prop} {M : AM} {ck q bk : Nat} {mvv : Value} {K : Ck} (h : ClerkAt (vw S M) ck q mvv bk K) : ∀ i, ckD ck q mvv i → S i := fun i hi => by
 rcases hi with rfl | rfl | hi
 ·exact (vw_some.1 h.cells).1
 ·obtain ⟨E, h1, _⟩ := h.map
  exact (vw_some.1 h1).1
 ·obtain ⟨b, hb⟩ := h.row.at_ hi
  exact (vw_some.1 hb).1
theorem un57 : Try.prog.underlying 57 = some (.pointer 138) := by kernel_rfl
set_option maxRecDepth 100000 in
theorem busy_ok {m : AM} {ck bk : Nat} {dn : Bool} (h0 : Rd m ck 0 (.pointer (some ⟨bk, 0, none⟩))) (hd : Rd m ck 260 (.bool dn)) : ACall Try.prog 91 #[.pointer (some ⟨ck, 0, none⟩)] m (Ret (.int .i64 (if dn then 9 else 0)) m) := by
 have hr := fun T => h0.old T
 have hr2 := fun T => hd.old T
 refine ACall.start Try.func91 rfl rfl ?_
 cases dn with
 | true =>
  (repeat (first|(with_reducible refine AWo.cons ?_)|((with_reducible refine Step.id ?_);first|((with_reducible apply Step.gdT);exact rfl;exact rfl;((rfl)))|((with_reducible apply Step.move);exact rfl;exact rfl)|((with_reducible apply Step.assign);exact rfl;exact rfl)|((with_reducible apply Step.load);exact rfl;((decide +kernel));exact rfl;((first|exact hr _|exact hr2 _)))|((with_reducible apply Step.field0);exact rfl;((decide +kernel));exact rfl)|((with_reducible apply Step.field (k := 260));exact rfl;((decide +kernel));exact rfl)|((with_reducible apply Step.ptrNot);exact rfl;exact rfl;exact un49;exact rfl)|((with_reducible apply Step.ptrNot);exact rfl;exact rfl;exact un57;exact rfl)|((with_reducible apply Step.nilp);exact rfl;exact rfl)|((with_reducible apply Step.pickF);exact rfl;exact rfl;exact rfl;exact rfl;((rfl))))|(with_reducible first|apply AWo.nil|apply AW.seq|apply Then.n|apply AW.regL|apply AW.block)|((with_reducible apply AW.condT);exact rfl;((rfl)))|((with_reducible apply AW.condF);exact rfl;((rfl)))))
  (refine AW.retD (l := [(2, _)]) (by repeat (first | exact trivial | (refine And.intro ⟨rfl, by (exact .int _ _)⟩ ?_))) ?_; (repeat (first | refine Then.r ?_ | refine InBlk.r ?_)))
  exact ⟨_, rfl, rfl, rfl⟩
 | false =>
  (repeat (first|(with_reducible refine AWo.cons ?_)|((with_reducible refine Step.id ?_);first|((with_reducible apply Step.gdT);exact rfl;exact rfl;((rfl)))|((with_reducible apply Step.move);exact rfl;exact rfl)|((with_reducible apply Step.assign);exact rfl;exact rfl)|((with_reducible apply Step.load);exact rfl;((decide +kernel));exact rfl;((first|exact hr _|exact hr2 _)))|((with_reducible apply Step.field0);exact rfl;((decide +kernel));exact rfl)|((with_reducible apply Step.field (k := 260));exact rfl;((decide +kernel));exact rfl)|((with_reducible apply Step.ptrNot);exact rfl;exact rfl;exact un49;exact rfl)|((with_reducible apply Step.ptrNot);exact rfl;exact rfl;exact un57;exact rfl)|((with_reducible apply Step.nilp);exact rfl;exact rfl)|((with_reducible apply Step.pickF);exact rfl;exact rfl;exact rfl;exact rfl;((rfl))))|(with_reducible first|apply AWo.nil|apply AW.seq|apply Then.n|apply AW.regL|apply AW.block|apply InBlk.n|apply AW.skip)|((with_reducible apply AW.condF);exact rfl;((rfl)))))
  (refine AW.retD (l := [(2, _)]) (by repeat (first | exact trivial | (refine And.intro ⟨rfl, by (exact .int _ _)⟩ ?_))) ?_; (repeat (first | refine Then.r ?_ | refine InBlk.r ?_)))
  exact ⟨_, rfl, rfl, rfl⟩
theorem ze155 : zeroB Try.prog 155 = some #[.int .i64 0, .int .i64 0] := by kernel_rfl
def chF (K : Ck) (p i : Int) : Int × Int × Ck := if K.done = true then (0, 9, K) else if inB p i = true then (K.V.getD (p.toNat * 16 + i.toNat) 0, 0, { K with seen := (p, i) :: K.seen }) else (0, 2, K)
set_option maxHeartbeats 4000000 in
set_option maxRecDepth 100000 in
theorem CHeld_ok {m : AM} {ck q bk : Nat} {mvv : Value} {K : Ck} (p i : Int) (h : ClerkAt m ck q mvv bk K) : ACall Try.prog 31 #[.pointer (some ⟨ck, 0, none⟩), .int .i64 p, .int .i64 i] m (fun r M => r = .tuple #[.int .i64 (chF K p i).1, .int .i64 (chF K p i).2.1] ∧ ClerkAt M ck q mvv bk (chF K p i).2.2 ∧ Keep (· = q) m M) := by
 have hbusy := fun T => busy_ok (m := m ++ T) (dn := K.done) (Rd.old T ⟨_, h.cells, ckc_0⟩) (Rd.old T ⟨_, h.cells, ckc_d h.lV⟩)
 have hth := fun T b e => there_ok (m := m ++ T) p i (b := b) e
 have hcl := h.lt
 have hne := h.ne
 obtain ⟨E, hE, hEs⟩ := h.map
 have hql := h.ltq
 unfold chF
 cases hd : K.done with
 | true =>
  rw [hd] at hbusy
  simp only [if_true] at hbusy ⊢
  refine ACall.start Try.func31 rfl rfl ?_
  (repeat (first|(with_reducible refine AWo.cons ?_)|((with_reducible refine Step.id ?_);first|((with_reducible apply Step.move);exact rfl;exact rfl)|((with_reducible apply Step.assign);exact rfl;exact rfl)|((with_reducible apply Step.neq);exact rfl;exact rfl;exact rfl)|((with_reducible apply Step.callR fit);exact rfl;exact Try.func91;exact rfl;exact rfl;exact (hbusy _)))|(with_reducible first|apply AWo.nil|apply AW.seq|apply Then.n|apply AW.regL)|((with_reducible apply AW.condT);exact rfl;((rfl)))))
  (refine AW.ret ?_; (repeat (first | refine Then.r ?_ | refine InBlk.r ?_)))
  exact ⟨_, rfl, rfl, h.old _, Keep.app _ _ _⟩
 | false =>
  rw [hd] at hbusy
  simp only [Bool.false_eq_true, if_false] at hbusy ⊢
  refine ACall.start Try.func31 rfl rfl ?_
  cases hin : inB p i with
  | false =>
   have hth := fun T => hth T _ hin
   simp only [Bool.false_eq_true, if_false]
   (repeat (first|(with_reducible refine AWo.cons ?_)|((with_reducible refine Step.id ?_);first|((with_reducible apply Step.move);exact rfl;exact rfl)|((with_reducible apply Step.assign);exact rfl;exact rfl)|((with_reducible apply Step.loadL (n := 2));exact rfl;((decide +kernel));((decide +kernel));exact rfl;((exact RdL.new rfl rfl));exact rfl;exact rfl)|((with_reducible apply Step.neq);exact rfl;exact rfl;exact rfl)|((with_reducible apply Step.not);exact rfl;exact rfl)|((with_reducible apply Step.callR fit);exact rfl;exact Try.func91;exact rfl;exact rfl;exact (hbusy _))|((with_reducible apply Step.callR fit);exact rfl;exact Try.func92;exact rfl;exact rfl;exact (hth _))|((with_reducible apply Step.alloc 0);exact rfl;exact ze155;exact rfl;((first|(simp only [zq7, zq8, zq9, zq0, iv_set, bv_set, iv_rep, bv_rep] <;> rfl)|rfl)))|((with_reducible apply Step.storeA (k := 0) (n := 2));exact rfl;exact rfl;exact rfl;exact rfl;((decide +kernel));exact rfl;((kernel_rfl));exact rfl;((first|(simp only [zq7, zq8, zq9, zq0, iv_set, bv_set, iv_rep, bv_rep] <;> rfl)|rfl)))|((with_reducible apply Step.build);exact rfl;exact bl155;exact rfl))|(with_reducible first|apply AWo.nil|apply AW.seq|apply Then.n|apply AW.regL|apply AW.skip)|((with_reducible apply AW.condT);exact rfl;((rfl)))|((with_reducible apply AW.condF);exact rfl;((rfl)))))
   (refine AW.ret ?_; (repeat (first | refine Then.r ?_ | refine InBlk.r ?_)))
   exact ⟨_, rfl, rfl, h.old _, Keep.app _ _ _⟩
  | true =>
   have hth := fun T => hth T _ hin
   simp only [inB, decide_eq_true_eq] at hin
   obtain ⟨x1, x2, x3, x4⟩ := hin
   obtain ⟨p, rfl⟩ := Int.eq_ofNat_of_zero_le x1
   obtain ⟨i, rfl⟩ := Int.eq_ofNat_of_zero_le x3
   have hrq := fun T => Rd.old T (show Rd m ck 258 (.map (some q)) from ⟨_, h.cells, ckc_q h.lV⟩)
   have hlV := h.lV
   have hrv : ∀ (T : AM) (b : Option Blk), Rd ((m ++ T).set q b) ck (0 + 2 + p * 16 + i) (.int .i64 (K.V.getD (p * 16 + i) 0)) := fun T b => by rw [show 0 + 2 + p * 16 + i = 2 + (p * 16 + i) by omega]; exact ⟨_, by rw [List.getElem?_set_ne (Ne.symm hne), List.getElem?_append_left hcl]; exact h.cells, ckc_V (V := K.V) (k := p * 16 + i) (by omega)⟩
   simp only [if_true, Int.toNat_natCast]
   (repeat (first|(with_reducible refine AWo.cons ?_)|((with_reducible refine Step.id ?_);first|((with_reducible apply Step.move);exact rfl;exact rfl)|((with_reducible apply Step.assign);exact rfl;exact rfl)|((with_reducible apply Step.load);exact rfl;((decide +kernel));exact rfl;((first|exact hrq _|exact hrv _ _)))|((with_reducible apply Step.loadL (n := 2));exact rfl;((decide +kernel));((decide +kernel));exact rfl;((exact RdL.new rfl rfl));exact rfl;exact rfl)|((with_reducible apply Step.field (k := 2));exact rfl;((decide +kernel));exact rfl)|((with_reducible apply Step.field (k := 258));exact rfl;((decide +kernel));exact rfl)|((with_reducible apply Step.ixA (s := 16) (n := 16));exact rfl;exact rfl;exact ar130;exact rfl;((omega)))|((with_reducible apply Step.ixC (n := 16));exact rfl;exact rfl;exact ar128;exact rfl;((omega)))|((with_reducible apply Step.neq);exact rfl;exact rfl;exact rfl)|((with_reducible apply Step.not);exact rfl;exact rfl)|((with_reducible apply Step.nilp);exact rfl;exact rfl)|((with_reducible apply Step.callR fit);exact rfl;exact Try.func91;exact rfl;exact rfl;exact (hbusy _))|((with_reducible apply Step.callR fit);exact rfl;exact Try.func92;exact rfl;exact rfl;exact (hth _))|((with_reducible apply Step.mapSetP);exact rfl;exact rfl;exact rfl;((repeat (first|assumption|exact get_old _ (by assumption)|apply set_hit))))|((with_reducible apply Step.alloc 0);exact rfl;exact ze155;exact rfl;((first|(simp only [zq7, zq8, zq9, zq0, iv_set, bv_set, iv_rep, bv_rep] <;> rfl)|rfl)))|((with_reducible apply Step.storeA (k := 0) (n := 2));exact rfl;exact rfl;exact rfl;exact rfl;((decide +kernel));exact rfl;((kernel_rfl));exact rfl;((first|(simp only [zq7, zq8, zq9, zq0, iv_set, bv_set, iv_rep, bv_rep] <;> rfl)|rfl)))|((with_reducible apply Step.build);exact rfl;exact bl155;exact rfl))|(with_reducible first|apply AWo.nil|apply AW.seq|apply Then.n|apply AW.regL)|((with_reducible apply AW.drawL fit);((decide +kernel)))|(with_reducible apply AW.skip)|((with_reducible apply AW.condF);exact rfl;((rfl)))))

   (refine AW.ret ?_; (repeat (first | refine Then.r ?_ | refine InBlk.r ?_)))
   have hk : Keep (· = q) m (List.set (m ++ [some { cells := (Value.agg #[.int .i64 (p : Nat), .int .i64 (i : Nat)]).cells.toList }]) q (some (mapB (setE E (((p : Nat) : Int), ((i : Nat) : Int)) true)))) := ⟨by rw [List.length_set, List.length_append]; omega, fun j hj hd => by rw [List.getElem?_set_ne (Ne.symm hd), List.getElem?_append_left hj]⟩
   refine ⟨_, rfl, rfl, ⟨?_, hlV, by have := h.lb; have := hk.len; omega, ⟨_, set_hit (get_old _ hE), fun x => ?_⟩, ?_⟩, hk⟩
   ·rw [hk.get ck hcl hne, h.cells, hd]
   ·rw [setE_fst, hEs, List.mem_cons, or_comm]
   ·exact h.row.keep fun j hj hn => hk.get j hj fun e => hn (e ▸ h.apart.2)
def moF (K : Ck) (x : Tr) : Int × Ck := if K.done = true then (9, K) else if okT x = true then if 16 ≤ K.mv.length then (3, K) else (0, { K with mv := K.mv ++ [x], V := wth1 K.V x }) else (2, K)
theorem sz55 : szB Try.prog 55 = some 1 := by kernel_rfl
theorem bs55v {m : AM} {k : Nat} {a b c d : Int} : abuildSlice Try.prog m k 55 1 [(0, .agg #[.int .i64 a, .int .i64 b, .int .i64 c, .int .i64 d])] = some (.slice (some ⟨k, 0, none⟩) 1 1, m.set k (some { cells := [.int .i64 a, .int .i64 b, .int .i64 c, .int .i64 d] })) := by kernel_rfl
theorem ClerkAt.rd {M : AM} {ck q bk : Nat} {mvv : Value} {K : Ck} (h : ClerkAt M ck q mvv bk K) (T : AM) : Rd (M ++ T) ck 0 (.pointer (some ⟨bk, 0, none⟩)) ∧ Rd (M ++ T) ck 1 (.int .i64 (K.at_ : Nat)) ∧ Rd (M ++ T) ck 258 (.map (some q)) ∧ Rd (M ++ T) ck 259 mvv ∧ Rd (M ++ T) ck 260 (.bool K.done) :=
 ⟨Rd.old T ⟨_, h.cells, ckc_0⟩, Rd.old T ⟨_, h.cells, ckc_1⟩, Rd.old T ⟨_, h.cells, ckc_q h.lV⟩, Rd.old T ⟨_, h.cells, ckc_m h.lV⟩, Rd.old T ⟨_, h.cells, ckc_d h.lV⟩⟩
theorem get_two {m : AM} {a b c : Option Blk} {j : Nat} (h : j ≤ m.length) (e : a = c) : (m ++ [a, b])[j]? = (m ++ [c])[j]? := by
 subst e
 rcases Nat.lt_or_ge j m.length with hl | hl
 ·rw [List.getElem?_append_left hl, List.getElem?_append_left hl]
 ·have e : j = m.length + 0 := by omega
  rw [e, get_app, get_app]; rfl
theorem with1_ok {M : AM} {x : Tr} {H : List Int} {b : Int} (hok : okT x = true) (hH : H.length = 256) (hb : Bd H b) (hb1 : b ≤ 1000000000000) :
  ACall Try.prog 87 #[.agg (iv H).toArray, .slice (some ⟨M.length + 0, 0, none⟩) 1 1] (M ++ [some { cells := x.c }]) (Ret (.agg (iv (wth1 H x)).toArray) (M ++ [some { cells := x.c }])) :=
 with_ok (l := [x]) ⟨M.length + 0, 0, Sl.mk (Nat.le_refl _), by simp, fun k hk => by
  obtain rfl : k = 0 := by simpa using hk
  exact RdL.new rfl rfl⟩ (by simp) (by simp [hok]) hH hb hb1
set_option maxHeartbeats 8000000 in
set_option maxRecDepth 100000 in
theorem Move_ok {m : AM} {ck q bk : Nat} {mvv : Value} {K : Ck} {x : Tr} {b : Int} (h : ClerkAt m ck q mvv bk K) (hb : Bd K.V b) (hb1 : b ≤ 1000000000000) : ACall Try.prog 33 #[.pointer (some ⟨ck, 0, none⟩), x.v] m
  (fun r M => ∃ mvv', r = .int .i64 (moF K x).1 ∧ ClerkAt M ck q mvv' bk (moF K x).2 ∧ Keep (ckD ck q mvv) m M ∧ ∀ j, j < m.length → NotOf mvv j → NotOf mvv' j) := by
 have hbusy := fun T => busy_ok (m := m ++ T) (dn := K.done) (h.rd T).1 (h.rd T).2.2.2.2
 have hri := fun T b e => right_ok (m := m ++ T) x (b := b) e
 have hcl := h.lt
 have hne := h.ne
 have hlV := h.lV
 have hap := h.apart
 have hrm := fun T => (h.rd T).2.2.2.1
 obtain ⟨am, q1, q2, q3⟩ := h.row.sl (by omega)
 obtain ⟨i, f, t, n⟩ := x
 unfold moF
 cases hd : K.done with
 | true =>
  rw [hd] at hbusy
  simp only [if_true] at hbusy ⊢
  refine ACall.start Try.func33 rfl rfl ?_
  (repeat (first|(with_reducible refine AWo.cons ?_)|((with_reducible refine Step.id ?_);first|((with_reducible apply Step.move);exact rfl;exact rfl)|((with_reducible apply Step.assign);exact rfl;exact rfl)|((with_reducible apply Step.neq);exact rfl;exact rfl;exact rfl)|((with_reducible apply Step.callR fit);exact rfl;exact Try.func91;exact rfl;exact rfl;exact (hbusy _))|((with_reducible apply Step.box 0);exact rfl;exact rfl;((kernel_rfl));exact rfl;((first|(simp only [zq7, zq8, zq9, zq0, iv_set, bv_set, iv_rep, bv_rep] <;> rfl)|rfl))))|(with_reducible first|apply AWo.nil|apply AW.seq|apply Then.n|apply AW.regL|apply AW.block)|((with_reducible apply AW.condT);exact rfl;((rfl)))))
  (refine AW.ret ?_; (repeat (first | refine Then.r ?_ | refine InBlk.r ?_)))
  exact ⟨_, rfl, mvv, rfl, h.old _, Keep.app _ _ _, fun _ _ h => h⟩
 | false =>
  rw [hd] at hbusy
  simp only [Bool.false_eq_true, if_false] at hbusy ⊢
  cases hok : okT ⟨i, f, t, n⟩ with
  | false =>
   have hri := fun T => hri T _ hok
   simp only [Bool.false_eq_true, if_false]
   refine ACall.start Try.func33 rfl rfl ?_
   (repeat (first|(with_reducible refine AWo.cons ?_)|((with_reducible refine Step.id ?_);first|((with_reducible apply Step.move);exact rfl;exact rfl)|((with_reducible apply Step.assign);exact rfl;exact rfl)|((with_reducible apply Step.loadL (n := 4));exact rfl;((decide +kernel));((decide +kernel));exact rfl;((exact RdL.new rfl rfl));exact rfl;exact rfl)|((with_reducible apply Step.neq);exact rfl;exact rfl;exact rfl)|((with_reducible apply Step.not);exact rfl;exact rfl)|((with_reducible apply Step.callR fit);exact rfl;exact Try.func91;exact rfl;exact rfl;exact (hbusy _))|((with_reducible apply Step.callR fit);exact rfl;exact Try.func86;exact rfl;exact rfl;exact (hri _))|((with_reducible apply Step.box 0);exact rfl;exact rfl;((kernel_rfl));exact rfl;((first|(simp only [zq7, zq8, zq9, zq0, iv_set, bv_set, iv_rep, bv_rep] <;> rfl)|rfl))))|(with_reducible first|apply AWo.nil|apply AW.seq|apply Then.n|apply AW.regL|apply AW.block)|((with_reducible apply AW.condT);exact rfl;((rfl)))|((with_reducible apply AW.condF);exact rfl;((rfl)))))
   (refine AW.ret ?_; (repeat (first | refine Then.r ?_ | refine InBlk.r ?_)))
   exact ⟨_, rfl, mvv, rfl, h.old _, Keep.app _ _ _, fun _ _ h => h⟩
  | true =>
   have hri := fun T => hri T _ hok
   simp only [if_true]
   by_cases h16 : 16 ≤ K.mv.length
   ·simp only [h16, if_true]
    refine ACall.start Try.func33 rfl rfl ?_
    (repeat (first|(with_reducible refine AWo.cons ?_)|((with_reducible refine Step.id ?_);first|((with_reducible apply Step.move);exact rfl;exact rfl)|((with_reducible apply Step.assign);exact rfl;exact rfl)|((with_reducible apply Step.load);exact rfl;((decide +kernel));exact rfl;((exact hrm _)))|((with_reducible apply Step.loadL (n := 4));exact rfl;((decide +kernel));((decide +kernel));exact rfl;((exact RdL.new rfl rfl));exact rfl;exact rfl)|((with_reducible apply Step.field (k := 259));exact rfl;((decide +kernel));exact rfl)|((with_reducible apply Step.geq);exact rfl;exact rfl;exact rfl)|((with_reducible apply Step.neq);exact rfl;exact rfl;exact rfl)|((with_reducible apply Step.len);exact rfl;((assumption));((decide +kernel));exact rfl)|((with_reducible apply Step.not);exact rfl;exact rfl)|((with_reducible apply Step.nilp);exact rfl;exact rfl)|((with_reducible apply Step.callR fit);exact rfl;exact Try.func91;exact rfl;exact rfl;exact (hbusy _))|((with_reducible apply Step.callR fit);exact rfl;exact Try.func86;exact rfl;exact rfl;exact (hri _))|((with_reducible apply Step.box 0);exact rfl;exact rfl;((kernel_rfl));exact rfl;((first|(simp only [zq7, zq8, zq9, zq0, iv_set, bv_set, iv_rep, bv_rep] <;> rfl)|rfl))))|(with_reducible first|apply AWo.nil|apply AW.seq|apply Then.n|apply AW.regL|apply AW.block)|((with_reducible apply AW.condT);exact rfl;(((simp only [zq1, zq2, zq3, zq4, zq5, zq6];first|assumption|omega))))|((with_reducible apply AW.condF);exact rfl;((rfl)))))
    (refine AW.ret ?_; (repeat (first | refine Then.r ?_ | refine InBlk.r ?_)))
    exact ⟨_, rfl, mvv, rfl, h.old _, Keep.app _ _ _, fun _ _ h => h⟩
   ·simp only [h16, if_false]
    refine ACall.start Try.func33 rfl rfl ?_
    (repeat (first|(with_reducible refine AWo.cons ?_)|((with_reducible refine Step.id ?_);first|((with_reducible apply Step.move);exact rfl;exact rfl)|((with_reducible apply Step.assign);exact rfl;exact rfl)|((with_reducible apply Step.load);exact rfl;((decide +kernel));exact rfl;((exact hrm _)))|((with_reducible apply Step.loadL (n := 4));exact rfl;((decide +kernel));((decide +kernel));exact rfl;((exact RdL.new rfl rfl));exact rfl;exact rfl)|((with_reducible apply Step.field (k := 259));exact rfl;((decide +kernel));exact rfl)|((with_reducible apply Step.geq);exact rfl;exact rfl;exact rfl)|((with_reducible apply Step.neq);exact rfl;exact rfl;exact rfl)|((with_reducible apply Step.len);exact rfl;((assumption));((decide +kernel));exact rfl)|((with_reducible apply Step.not);exact rfl;exact rfl)|((with_reducible apply Step.nilp);exact rfl;exact rfl)|((with_reducible apply Step.callR fit);exact rfl;exact Try.func91;exact rfl;exact rfl;exact (hbusy _))|((with_reducible apply Step.callR fit);exact rfl;exact Try.func86;exact rfl;exact rfl;exact (hri _))|((with_reducible apply Step.box 0);exact rfl;exact rfl;((kernel_rfl));exact rfl;((first|(simp only [zq7, zq8, zq9, zq0, iv_set, bv_set, iv_rep, bv_rep] <;> rfl)|rfl))))|(with_reducible apply AWo.nil)|((fail_if_success (with_reducible refine AW.atR (id := 8) ?_));(with_reducible apply AW.seq))|(with_reducible first|apply Then.n|apply AW.regL|apply AW.block|apply InBlk.n|apply AW.skip)|((with_reducible apply AW.condF);exact rfl;((first|rfl|(simp only [zq1, zq2, zq3, zq4, zq5, zq6];first|assumption|omega))))))
    refine AW.seq ?_
    refine AW.joinQ (fun t' M' => ∃ u, (∃ X, M' = X.set ck (some { cells := ckc bk K.at_ K.V q u false }) ∧ X[ck]? = some (some { cells := ckc bk K.at_ K.V q mvv false }) ∧ Row X 0 4 u (tcs K.mv ++ [.int .i64 i, .int .i64 f, .int .i64 t, .int .i64 n]) (K.mv.length + 1) ∧ m.length < X.length ∧ (∀ j, j ≤ m.length → NotOf mvv j → X[j]? = (m ++ [some { cells := [.int .i64 i, .int .i64 f, .int .i64 t, .int .i64 n] }])[j]?) ∧ (∀ j, j ≤ m.length → NotOf mvv j → NotOf u j)) ∧ 
     All (fun i v => t' i = some v) [(0, .pointer (some ⟨ck, 0, none⟩)), (3, .pointer (some ⟨m.length + 0, 0, none⟩))]) ?_ ?_
    ·(repeat' (first|((with_reducible refine Step.id ?_);first|((with_reducible apply Step.move);exact rfl;exact rfl)|((with_reducible apply Step.load);exact rfl;((decide +kernel));exact rfl;((exact hrm _)))|((with_reducible apply Step.loadL (n := 4));exact rfl;((decide +kernel));((decide +kernel));exact rfl;((exact RdL.new rfl rfl));exact rfl;exact rfl)|((with_reducible apply Step.field (k := 259));exact rfl;((decide +kernel));exact rfl)|((with_reducible apply Step.nilp);exact rfl;exact rfl)|((with_reducible apply Step.buildS 1);exact rfl;exact rfl;exact (fun _ _ => bs55v);exact rfl;((first|(simp only [zq7, zq8, zq9, zq0, iv_set, bv_set, iv_rep, bv_rep] <;> rfl)|rfl))))|((with_reducible apply AW.drawT fit (T := (.step 0 (.step 1 (.step 2 (.step 3 (.step 5 (.both (.step 4 (.step 6 (.step 7 (.step 8 (.step 9 (.step 10 .done)))))) (.step 6 (.step 4 (.step 7 (.step 8 (.step 9 (.step 10 .done))))))))))))));((decide +kernel)))|((with_reducible apply AWt.step);exact rfl)|refine AWt.both ?_ ?_))
     all_goals ((with_reducible apply Step.appRow2 (n := K.mv.length) (xl := 1) (b0 := 0) (new := [.int .i64 i, .int .i64 f, .int .i64 t, .int .i64 n]));exact rfl;exact rfl;exact (h.row.old _);exact (Sl.mk (Nat.le_refl _));exact (fun _ => RdL.new rfl rfl);exact el55;exact un55;exact rfl;exact rfl;exact rfl;((omega));exact rfl;exact (Nat.zero_le _))
     all_goals intro u X hr1 hml1 hk1 hk2
     all_goals have hXc : X[ck]? = some (some { cells := ckc bk K.at_ K.V q mvv false }) := by rw [hk1 ck (by rw [List.length_append]; omega) hap.1, List.getElem?_append_left hcl, h.cells, hd]
     all_goals obtain ⟨a9, kd9, sz9, _, _, rfl, _⟩ := hr1.pos (by omega)
     all_goals (repeat' (first|((with_reducible refine Step.id ?_);first|((with_reducible apply Step.field (k := 259));exact rfl;((decide +kernel));exact rfl)|((with_reducible apply Step.nilp);exact rfl;exact rfl))|((with_reducible apply AWt.step);exact rfl)))
     all_goals ((with_reducible apply Step.storeAt);exact rfl;exact rfl;exact hXc;exact sz55;exact rfl;((rw [ckc_len hlV];omega));exact rfl;exact rfl)
     all_goals (repeat' ((with_reducible apply AWt.done)))
     all_goals refine ⟨rfl, _, ⟨X, by rw [Nat.zero_add, ckc_setM hlV], hXc, hr1, by rw [List.length_append] at hml1; simp at hml1; omega, fun j hj hn => ?_, fun j hj hn => hk2 j (by rw [List.length_append]; simp; omega) hn⟩, (by repeat (first | exact trivial | (refine And.intro rfl ?_)))⟩
     all_goals rw [hk1 j (by rw [List.length_append]; simp; omega) hn]
     all_goals exact get_two hj rfl
    ·rintro t' M' ⟨u, ⟨X, hY, hXc, hrow, hXl, hXk, hXn⟩, hsl⟩
     refine Then.n ?_
     refine AW.weak (fr_all hsl) ?_
     clear hsl
     refine AW.rebase ?_
     have hnu : NotOf u ck := hXn ck (by omega) hap.1
     have hYc : M'[ck]? = some (some { cells := ckc bk K.at_ K.V q u false }) := by rw [hY]; exact set_hit hXc
     have hYl : M'.length = X.length := by rw [hY, List.length_set]
     have hYk : ∀ j, j ≠ ck → M'[j]? = X[j]? := fun j hj => by rw [hY, List.getElem?_set_ne (Ne.symm hj)]
     have hYr : Row M' 0 4 u (tcs K.mv ++ [.int .i64 i, .int .i64 f, .int .i64 t, .int .i64 n]) (K.mv.length + 1) := by rw [hY]; exact hrow.set hnu
     have hrd : ∀ T, RdL (M' ++ T) ck (0 + 2) (iv K.V) := fun T => RdL.old T ⟨_, hYc, fun j v hj => by
      have hj1 := (List.getElem?_eq_some_iff.1 hj).1
      rw [iv_len] at hj1
      rw [iv_get hj1] at hj
      rw [show 0 + 2 + j = 2 + j by omega, ckc_V hj1]
      exact hj⟩
     have hrt : ∀ T, RdL (M' ++ T) (m.length + 0) 0 [.int .i64 i, .int .i64 f, .int .i64 t, .int .i64 n] := fun T => RdL.old T ⟨{ cells := [.int .i64 i, .int .i64 f, .int .i64 t, .int .i64 n] }, by rw [hYk _ (by omega), hXk (m.length + 0) (by omega) (h.row.far (by omega)), get_app]; rfl, fun j v hj => by simpa using hj⟩
     have hwith := with1_ok (M := M') (x := ⟨i, f, t, n⟩) hok hlV hb hb1
     have hlw : (wth1 K.V ⟨i, f, t, n⟩).length = 256 := by rw [wth1_len]; exact hlV
     have hckl : ck < M'.length := by omega
     have hfin : ∀ T : AM, ClerkAt (List.set (M' ++ T) ck (some { cells := ckc bk K.at_ (wth1 K.V ⟨i, f, t, n⟩) q u false })) ck q u bk { at_ := K.at_, V := wth1 K.V ⟨i, f, t, n⟩, seen := K.seen, mv := K.mv ++ [⟨i, f, t, n⟩], done := false } ∧
       Keep (ckD ck q mvv) m (List.set (M' ++ T) ck (some { cells := ckc bk K.at_ (wth1 K.V ⟨i, f, t, n⟩) q u false })) ∧ ∀ j, j < m.length → NotOf mvv j → NotOf u j := fun T => by
      have hk : Keep (ckD ck q mvv) m (List.set (M' ++ T) ck (some { cells := ckc bk K.at_ (wth1 K.V ⟨i, f, t, n⟩) q u false })) := ⟨by rw [List.length_set, List.length_append]; omega, fun j hj hd => by
       have h1 : j ≠ ck := fun e => hd (.inl e)
       have h2 : NotOf mvv j := Classical.byContradiction fun e => hd (.inr (.inr e))
       rw [List.getElem?_set_ne (Ne.symm h1), List.getElem?_append_left (by omega), hYk j h1, hXk j (by omega) h2, List.getElem?_append_left hj]⟩
      obtain ⟨E, hE, hEs⟩ := h.map
      have hql := h.ltq
      refine ⟨⟨set_hit (get_old _ hYc), hlw, by have := h.lb; have := hk.len; omega, ⟨E, ?_, hEs⟩, ?_⟩, hk, fun j hj hn => hXn j (by omega) hn⟩
      ·rw [List.getElem?_set_ne hne, List.getElem?_append_left (by omega), hYk q (Ne.symm hne), hXk q (by omega) hap.2, List.getElem?_append_left hql]
       exact hE
      ·rw [tcs_app, List.length_append]
       exact (hYr.old T).set hnu
     (repeat' (first|((with_reducible refine Step.id ?_);first|((with_reducible apply Step.move);exact rfl;exact rfl)|((with_reducible apply Step.loadL (n := 4));exact rfl;((decide +kernel));((decide +kernel));exact rfl;((exact hrt _));exact rfl;exact rfl)|((with_reducible apply Step.field (k := 2));exact rfl;((decide +kernel));exact rfl)|((with_reducible apply Step.nilp);exact rfl;exact rfl)|((with_reducible apply Step.buildS 0);exact rfl;exact rfl;exact (fun _ _ => bs55v);exact rfl;((first|(simp only [zq7, zq8, zq9, zq0, iv_set, bv_set, iv_rep, bv_rep] <;> rfl)|rfl))))|(with_reducible apply AW.seq)|((with_reducible apply AW.drawT fit (T := (.step 0 (.step 1 (.step 2 (.step 3 (.step 5 (.both (.step 4 (.step 6 (.step 7 (.step 8 (.step 9 (.step 10 .done)))))) (.step 6 (.step 4 (.step 7 (.step 8 (.step 9 (.step 10 .done))))))))))))));((decide +kernel)))|((with_reducible apply AWt.step);exact rfl)|refine AWt.both ?_ ?_))
     all_goals ((with_reducible apply Step.loadL (n := 256));exact rfl;exact ag130;exact sz130;exact rfl;exact (hrd _);((rw [iv_len, hlV]));exact rfl)
     all_goals (repeat' (first|((with_reducible refine Step.id ?_);first|((with_reducible apply Step.field (k := 2));exact rfl;((decide +kernel));exact rfl)|((with_reducible apply Step.nilp);exact rfl;exact rfl)|((with_reducible apply Step.callR fit);exact rfl;exact Try.func87;exact rfl;exact rfl;exact (hwith))|((with_reducible apply Step.buildS 0);exact rfl;exact rfl;exact (fun _ _ => bs55v);exact rfl;((first|(simp only [zq7, zq8, zq9, zq0, iv_set, bv_set, iv_rep, bv_rep] <;> rfl)|rfl))))|((with_reducible apply AWt.step);exact rfl)))
     all_goals ((with_reducible apply Step.storeL);exact rfl;exact rfl;exact (get_old _ hYc);exact rfl;exact sz130;((rw [iv_len, hlw]));exact (iv_all1 _);((rw [ckc_len hlV];omega)))
     all_goals (repeat (first|(with_reducible refine AWo.cons ?_)|((with_reducible refine Step.id ?_);((with_reducible apply Step.assign);exact rfl;exact rfl))|(with_reducible first|apply AWo.nil|apply AW.seq|apply Then.n|apply AW.regL|apply AWt.done)))
     all_goals (refine AW.ret ?_; (repeat (first | refine Then.r ?_ | refine InBlk.r ?_)))
     all_goals refine ⟨_, rfl, u, rfl, ?_⟩
     all_goals rw [Nat.zero_add, ckc_setV hlV hlw]
     all_goals exact hfin _
def kyL (l : List Tr) : List (Int × Int) := l.flatMap fun t => [(t.f, t.i), (t.t, t.i)]
def cAt (B : Bk) (x : Int × Int) : Int := B.C.getD (x.1.toNat * 16 + x.2.toNat) 0
def stale (K : Ck) (B : Bk) : Bool := (K.seen ++ kyL K.mv).any fun x => decide ((K.at_ : Int) < cAt B x)
def DoneC (M : AM) (ck bk : Nat) : Prop := ∃ b, M[ck]? = some (some b) ∧ b.kind.mine = true ∧ b.cells[0]? = some (.pointer (some ⟨bk, 0, none⟩)) ∧ b.cells[260]? = some (.bool true) ∧ bk < M.length
theorem getD_setT (l : List Tr) (i k : Nat) (x : Tr) (hk : k < l.length) : (l.set i x).getD k default = if i = k then x else l.getD k default := by
 simp only [List.getD_eq_getElem?_getD]
 by_cases h : i = k
 ·subst h; rw [List.getElem?_set_self hk, if_pos rfl]; rfl
 ·rw [List.getElem?_set_ne h, if_neg h]
def RevK (l L : List Tr) (k : Nat) : Prop := L.length = l.length ∧ ∀ p, p < l.length → L.getD p default = if p < k ∨ l.length ≤ p + k then l.getD (l.length - 1 - p) default else l.getD p default
theorem RevK.zero (l : List Tr) : RevK l l 0 := ⟨rfl, fun p hp => by rw [if_neg (by omega)]⟩
theorem RevK.step {l L : List Tr} {k : Nat} (h : RevK l L k) (hk : k < l.length - 1 - k) : RevK l ((L.set k (L.getD (l.length - 1 - k) default)).set (l.length - 1 - k) (L.getD k default)) (k + 1) := by
 obtain ⟨h1, h2⟩ := h
 refine ⟨by simp [h1], fun p hp => ?_⟩
 rw [getD_setT _ _ _ _ (by simp [h1, hp])]
 by_cases e1 : l.length - 1 - k = p
 ·rw [if_pos e1, if_pos (by omega), h2 k (by omega), if_neg (by omega)]
  congr 1
  omega
 ·rw [if_neg e1, getD_setT _ _ _ _ (by omega)]
  by_cases e2 : k = p
  ·rw [if_pos e2, if_pos (by omega), h2 _ (by omega), if_neg (by omega)]
   congr 1
   omega
  ·rw [if_neg e2, h2 p hp]
   by_cases e3 : p < k ∨ l.length ≤ p + k
   ·rw [if_pos e3, if_pos (by omega)]
   ·rw [if_neg e3, if_neg (by omega)]
theorem RevK.done {l L : List Tr} {k : Nat} (h : RevK l L k) (hk : l.length ≤ 2 * k + 1) : L = l.reverse := by
 obtain ⟨h1, h2⟩ := h
 apply List.ext_getElem?
 intro p
 by_cases hp : p < l.length
 ·have h3 := h2 p hp
  have h4 : L.getD p default = l.getD (l.length - 1 - p) default := by
   rw [h3]
   by_cases e : p < k ∨ l.length ≤ p + k
   ·rw [if_pos e]
   ·rw [if_neg e]; congr 1; omega
  rw [List.getD_eq_getElem?_getD, List.getElem?_eq_getElem (by omega), List.getD_eq_getElem?_getD, List.getElem?_eq_getElem (by omega)] at h4
  rw [List.getElem?_eq_getElem (by omega), List.getElem?_reverse hp, List.getElem?_eq_getElem (by omega)]
  exact congrArg some h4
 ·rw [List.getElem?_eq_none (by omega), List.getElem?_eq_none (by simpa using Nat.le_of_not_lt hp)]
theorem Tr.one (x : Tr) : x.c.all (·.oneCell') = true := by simp [Tr.c, Value.oneCell']
def asg (ow : Nat → Nat) (n i : Nat) : Nat → Nat := fun j => if j < n then ow j else i
theorem asg_lt {ow : Nat → Nat} {n i j : Nat} (h : j < n) : asg ow n i j = ow j := if_pos h
theorem asg_ge {ow : Nat → Nat} {n i j : Nat} (h : n ≤ j) : asg ow n i j = i := if_neg (by omega)
structure Side (m : AM) (ow : Nat → Nat) (M : AM) (obj : Nat → AM → Prop) : Prop where
 len : m.length ≤ M.length
 base : ∀ j, j < m.length → M[j]? = m[j]? ∧ ow j = 1
 at_ : ∀ k, obj k (vw (fun j => ow j = k) M)
 mono : ∀ k A A', MSub A A' → obj k A → obj k A'
theorem Side.app {m : AM} {ow : Nat → Nat} {M : AM} {obj : Nat → AM → Prop} (h : Side m ow M obj) (N : AM) (i : Nat) : Side m (asg ow M.length i) (M ++ N) obj := by
 refine ⟨by rw [List.length_append]; have := h.len; omega, fun j hj => ?_, fun k => ?_, h.mono⟩
 ·have := h.len
  rw [List.getElem?_append_left (by omega), asg_lt (by omega)]
  exact h.base j hj
 ·refine h.mono k _ _ ⟨by rw [vw_len, vw_len, List.length_append]; omega, fun j b _ hj => ?_⟩ (h.at_ k)
  obtain ⟨h1, h2⟩ := vw_some.1 hj
  exact vw_some.2 ⟨by show asg ow M.length i j = k; rw [asg_lt (List.getElem?_eq_some_iff.1 h2).1]; exact h1, get_old _ h2⟩
theorem Side.law {m : AM} {ow : Nat → Nat} {M M2 : AM} {obj obj' : Nat → AM → Prop} {D : Nat → Prop} (h : Side m ow M obj) (hk : Keep D M M2) (hD : ∀ j, D j → ow j = 1 ∧ m.length ≤ j) (he : ∀ k, k ≠ 1 → obj' k = obj k) (h1 : obj' 1 (vw (fun j => asg ow M.length 1 j = 1) M2)) (hm : ∀ k A A', MSub A A' → obj' k A → obj' k A') : Side m (asg ow M.length 1) M2 obj' := by
 refine ⟨by have := h.len; have := hk.len; omega, fun j hj => ?_, fun k => ?_, hm⟩
 ·have := h.len
  rw [asg_lt (by omega), hk.get j (by omega) (fun e => by have := (hD j e).2; omega)]
  exact h.base j hj
 ·by_cases e : k = 1
  ·subst e; exact h1
  ·rw [he k e]
   refine h.mono k _ _ ⟨by rw [vw_len, vw_len]; exact hk.len, fun j b _ hj => ?_⟩ (h.at_ k)
   obtain ⟨q1, q2⟩ := vw_some.1 hj
   have hl := (List.getElem?_eq_some_iff.1 q2).1
   refine vw_some.2 ⟨by show asg ow M.length 1 j = k; rw [asg_lt hl]; exact q1, ?_⟩
   rw [hk.get j hl (fun e' => e (by rw [← (hD j e').1]; exact q1.symm))]
   exact q2
theorem Side.call {m : AM} {ow ow2 : Nat → Nat} {M M' M2 : AM} {obj obj' : Nat → AM → Prop} {I : Nat → Prop} (h : Side m ow M obj) (hF : Fra (fun j => I (ow j)) M M' M2) (hc : ∀ i, i < M.length → ¬ I (ow i) → M'[i]? = some none) (h1 : ¬ I 1) (h2 : ∀ j, j < M.length → ¬ I (ow j) → ow2 j = ow j)
  (h4 : ∀ k, ¬ I k → obj' k = obj k) (h5 : ∀ k, I k → obj' k (vw (fun j => ow2 j = k) M')) (hm : ∀ k A A', MSub A A' → obj' k A → obj' k A') : Side m ow2 M2 obj' := by
 have hmM : ∀ j, j < m.length → j < M.length := fun j hj => by have := h.len; omega
 refine ⟨by have := h.len; have := hF.len; omega, fun j hj => ?_, fun k => ?_, hm⟩
 ·have hb := h.base j hj
  have hn : ¬ I (ow j) := by rw [hb.2]; exact h1
  rw [hF.out j (hmM j hj) hn, h2 j (hmM j hj) hn]
  exact hb
 ·by_cases e : I k
  ·refine hm k _ _ ⟨by rw [vw_len, vw_len]; exact hF.le, fun j b hb hj => ?_⟩ (h5 k e)
   obtain ⟨q1, q2⟩ := vw_some.1 hj
   refine vw_some.2 ⟨q1, hF.get j b (fun hl => ?_) q2 (.inl hb)⟩
   by_cases e2 : I (ow j)
   ·exact e2
   ·rw [hc j hl e2] at q2; cases q2
  ·rw [h4 k e]
   refine h.mono k _ _ ⟨by rw [vw_len, vw_len]; exact hF.len, fun j b _ hj => ?_⟩ (h.at_ k)
   obtain ⟨q1, q2⟩ := vw_some.1 hj
   have hl := (List.getElem?_eq_some_iff.1 q2).1
   have hn : ¬ I (ow j) := by rw [q1]; exact e
   exact vw_some.2 ⟨by rw [h2 j hl hn]; exact q1, by rw [hF.out j hl hn]; exact q2⟩
theorem Row.vw {S : Nat → Prop} {M : AM} {b0 s : Nat} {u : Value} {c : List Value} {n : Nat} (h : Row M b0 s u c n) (hs : ∀ a, b0 ≤ a → S a) : Row (Abs.vw S M) b0 s u c n := by
 rcases h with h | ⟨a, kd, sz, h1, h2, h3, h4, h5⟩
 ·exact .inl h
 ·exact .inr ⟨a, kd, sz, h1, h2, vw_some.2 ⟨hs a h1, h3⟩, h4, h5⟩
theorem DoneC.msub {M M' : AM} {ck bk : Nat} (h : DoneC M ck bk) (hs : MSub M M') : DoneC M' ck bk := by
 obtain ⟨b, h1, h2, h3, h4, h5⟩ := h
 exact ⟨b, hs.get _ _ h2 h1, h2, h3, h4, by have := hs.len; omega⟩
theorem DoneC.busy {m : AM} {ck bk : Nat} (h : DoneC m ck bk) (T : AM) : ACall Try.prog 91 #[.pointer (some ⟨ck, 0, none⟩)] (m ++ T) (Ret (.int .i64 9) (m ++ T)) := by
 obtain ⟨b, h1, h2, h3, h4, h5⟩ := h
 exact busy_ok (dn := true) (Rd.old T ⟨_, h1, h3⟩) (Rd.old T ⟨_, h1, h4⟩)
set_option maxRecDepth 100000 in
theorem Move_done {m : AM} {ck bk : Nat} (x : Tr) (h : DoneC m ck bk) : ACall Try.prog 33 #[.pointer (some ⟨ck, 0, none⟩), x.v] m (fun r M => r = .int .i64 9 ∧ ∃ N, M = m ++ N) := by
 have hb := h.busy
 refine ACall.start Try.func33 rfl rfl ?_
 (repeat (first|(with_reducible refine AWo.cons ?_)|((with_reducible refine Step.id ?_);first|((with_reducible apply Step.move);exact rfl;exact rfl)|((with_reducible apply Step.assign);exact rfl;exact rfl)|((with_reducible apply Step.neq);exact rfl;exact rfl;exact rfl)|((with_reducible apply Step.callR fit);exact rfl;exact Try.func91;exact rfl;exact rfl;exact (hb _))|((with_reducible apply Step.box 0);exact rfl;exact rfl;((kernel_rfl));exact rfl;((first|(simp only [zq7, zq8, zq9, zq0, iv_set, bv_set, iv_rep, bv_rep] <;> rfl)|rfl))))|(with_reducible first|apply AWo.nil|apply AW.seq|apply Then.n|apply AW.regL|apply AW.block)|((with_reducible apply AW.condT);exact rfl;((rfl)))))
 (refine AW.ret ?_; (repeat (first | refine Then.r ?_ | refine InBlk.r ?_)))
 exact ⟨_, rfl, rfl, _, rfl⟩
set_option maxRecDepth 100000 in
theorem Held_done {m : AM} {ck bk : Nat} (p i : Int) (h : DoneC m ck bk) : ACall Try.prog 31 #[.pointer (some ⟨ck, 0, none⟩), .int .i64 p, .int .i64 i] m (Ret (.tuple #[.int .i64 0, .int .i64 9]) m) := by
 have hb := h.busy
 refine ACall.start Try.func31 rfl rfl ?_
 (repeat (first|(with_reducible refine AWo.cons ?_)|((with_reducible refine Step.id ?_);first|((with_reducible apply Step.move);exact rfl;exact rfl)|((with_reducible apply Step.assign);exact rfl;exact rfl)|((with_reducible apply Step.neq);exact rfl;exact rfl;exact rfl)|((with_reducible apply Step.callR fit);exact rfl;exact Try.func91;exact rfl;exact rfl;exact (hb _)))|(with_reducible first|apply AWo.nil|apply AW.seq|apply Then.n|apply AW.regL)|((with_reducible apply AW.condT);exact rfl;((rfl)))))
 (refine AW.retD (l := [(6, _), (7, _)]) (by repeat (first | exact trivial | (refine And.intro ⟨rfl, by (exact .int _ _)⟩ ?_))) ?_; (repeat (first | refine Then.r ?_ | refine InBlk.r ?_)))
 exact ⟨_, rfl, rfl, rfl⟩
section
variable {P : Program} {nt d : Nat} {ops : Array Oper} {T : TypeId} {p : String} {af : Array Edge} {t : Fm} {m : AM} {K : Fm → AM → Prop}
theorem Step.remU {x y : Operand} {X Y : TypeId} {a b : Int} (hx : evo t x = some (.int .u64 a)) (hy : evo t y = some (.int .u64 b)) (ha : 0 ≤ a) (hb : 1 ≤ b) (hlt : Nat.blt d nt = true) (hK : K (put t d (.int .u64 (a % b))) m) : Step P nt ops ⟨some d, .binOp .rem X x y Y, T, p, af, none⟩ t m K := by
 refine .ground rfl rfl hlt (by simp [Op.operands, hx, hy, g1, g0]) (fun h => by simp only [aquiet, evD_of hx, evD_of hy, aint, anil]; simpa [evD_of hx, evD_of hy] using h) ?_ (by simp [g1, g0]) hK
 simp [execOp, eqGuard, binOp, evD_of hx, evD_of hy, Op.intDiv, show ¬ b = 0 by omega, Int.tmod_eq_emod_of_nonneg ha, bind, Sem.bind, pure, Sim.still]
end
theorem wrapU (a : Int) : 0 ≤ IntKind.u64.wrap a := by
 simp only [IntKind.wrap, IntKind.signed, IntKind.bits]
 simp
 omega
theorem mod_in (a : Int) (c : Nat) (hc : 0 < c) (hc2 : c ≤ 9223372036854775807) : ∃ n : Nat, n < c ∧ IntKind.i64.wrap (IntKind.u64.wrap a % (c : Int)) = (n : Int) := by
 have h := wrapU a
 have h1 := Int.emod_nonneg (IntKind.u64.wrap a) (show (c : Int) ≠ 0 by omega)
 have h2 := Int.emod_lt_of_pos (IntKind.u64.wrap a) (show (0 : Int) < c by omega)
 refine ⟨(IntKind.u64.wrap a % (c : Int)).toNat, by omega, ?_⟩
 rw [IntWalk.i64_in _ (by omega)]
 omega
theorem MSub.all {S : Nat → Prop} {M : AM} (h : ∀ i b, M[i]? = some (some b) → S i) : MSub M (vw S M) := ⟨by rw [vw_len]; exact Nat.le_refl _, fun i b _ hi => vw_some.2 ⟨h i b hi, hi⟩⟩
theorem ClerkAt.vw {S : Nat → Prop} {M : AM} {ck q bk : Nat} {mvv : Value} {K : Ck} (h : ClerkAt M ck q mvv bk K) (hS : ∀ j, ckD ck q mvv j → S j) : ClerkAt (Abs.vw S M) ck q mvv bk K := by
 obtain ⟨h1, h2, h3, ⟨E, h4, h5⟩, h6⟩ := h
 refine ⟨vw_some.2 ⟨hS _ (.inl rfl), h1⟩, h2, by rw [vw_len]; exact h3, ⟨E, vw_some.2 ⟨hS _ (.inr (.inl rfl)), h4⟩, h5⟩, ?_⟩
 rcases h6 with h6 | ⟨a, kd, sz, q1, q2, q3, q4, q5⟩
 ·exact .inl h6
 ·exact .inr ⟨a, kd, sz, q1, q2, vw_some.2 ⟨hS a (.inr (.inr fun hn => hn _ _ q2)), q3⟩, q4, q5⟩
def CSt (M : AM) (bk ck : Nat) : Option Ck → Prop
 | none => DoneC M ck bk
 | some K => ∃ q mvv, ClerkAt M ck q mvv bk K
theorem CSt.msub {M M' : AM} {bk ck : Nat} {o : Option Ck} (h : CSt M bk ck o) (hs : MSub M M') : CSt M' bk ck o := by
 cases o with
 | none => exact DoneC.msub h hs
 | some K => obtain ⟨q, v, h⟩ := h; exact ⟨q, v, h.msub hs⟩
def dobj (n0 bk : Nat) (B : Bk) (av : Value) (ps : List Nat) (cs : List (Nat × Option Ck)) : Nat → AM → Prop
 | 0, A => ∃ pv, BookAt A 0 bk B pv
 | 1, A => Row A n0 1 av (ps.map fun c => .pointer (some ⟨c, 0, none⟩)) ps.length
 | k + 2, A => ∀ c, cs[k]? = some c → CSt A bk c.1 c.2
theorem dobj_mono {n0 bk : Nat} {B : Bk} {av : Value} {ps : List Nat} {cs : List (Nat × Option Ck)} : ∀ k A A', MSub A A' → dobj n0 bk B av ps cs k A → dobj n0 bk B av ps cs k A'
 | 0, A, A', hs, ⟨pv, h⟩ => ⟨pv, h.msub hs⟩
 | 1, A, A', hs, h => Row.msub h hs
 | k + 2, A, A', hs, h => fun c hc => (h c hc).msub hs
structure OKK (K : Ck) : Prop where
 dn : K.done = false
 n : K.mv.length ≤ 16
 ok : K.mv.all okT = true
 bd : Bd K.V (1000000000 + 2000000 * (K.mv.length : Int))
 seen : ∀ x ∈ K.seen, inB x.1 x.2 = true
theorem OKK.moF {K : Ck} (h : OKK K) (x : Tr) : OKK (moF K x).2 := by
 unfold Abs.moF
 rw [if_neg (by rw [h.dn]; simp)]
 by_cases ho : okT x = true
 ·rw [if_pos ho]
  by_cases h16 : 16 ≤ K.mv.length
  ·rw [if_pos h16]; exact h
  ·rw [if_neg h16]
   refine ⟨h.dn, by simp; omega, by simp [h.ok, ho], ?_, h.seen⟩
   have := h.bd.wth1 ho
   simp only [List.length_append, List.length_singleton]
   exact this.le (by push_cast; omega)
 ·rw [if_neg ho]; exact h
theorem OKK.chF {K : Ck} (h : OKK K) (p i : Int) : OKK (chF K p i).2.2 := by
 unfold Abs.chF
 rw [if_neg (by rw [h.dn]; simp)]
 by_cases hi : inB p i = true
 ·rw [if_pos hi]
  refine ⟨h.dn, h.n, h.ok, h.bd, fun x hx => ?_⟩
  rcases List.mem_cons.1 hx with rfl | hx
  ·exact hi
  ·exact h.seen x hx
 ·rw [if_neg hi]; exact h
section
variable {m : AM} {ow : Nat → Nat} {M : AM} {n0 bk : Nat} {B : Bk} {av : Value} {ps : List Nat} {cs : List (Nat × Option Ck)}
def BkQ (R : Value → Prop) (B' : Bk) (bk : Nat) (pv : Value) (m : AM) (r : Value) (M' : AM) : Prop := R r ∧ ∃ u, BookAt M' 0 bk B' u ∧ Keep (bkD bk pv) m M'
theorem Side.bookCall {f : FuncId} {args : Array Value} {B' : Bk} {R : Value → Prop} (h : Side m ow M (dobj n0 bk B av ps cs)) (hc : ∀ pv, BookAt (vw (fun j => ow j = 0) M) 0 bk B pv → ACall Try.prog f args (vw (fun j => ow j = 0) M) (BkQ R B' bk pv (vw (fun j => ow j = 0) M))) :
  ACall Try.prog f args M (fun r M2 => R r ∧ M.length ≤ M2.length ∧ (∀ j, j < M.length → ow j ≠ 0 → M2[j]? = M[j]?) ∧ Side m (asg ow M.length 0) M2 (dobj n0 bk B' av ps cs)) := by
 obtain ⟨pv, hB⟩ := h.at_ 0
 refine (ACall.frame (fun j => ow j = 0) (hc pv hB)).mono ?_
 rintro r M2 ⟨M', ⟨hR, u, hB', hk⟩, hF⟩
 refine ⟨hR, hF.len, fun j hj hn => hF.out j hj hn, ?_⟩
 have hcl := hk.clean hB.in_
 refine h.call (I := fun k => k = 0) hF hcl (by decide) (fun j hj hn => asg_lt hj) (fun k hk => ?_) ?_ dobj_mono
 ·rcases k with _ | _ | k
  ·exact absurd rfl hk
  ·rfl
  ·rfl
 ·rintro k rfl
  refine ⟨u, hB'.msub (MSub.all fun i b hi => ?_)⟩
  by_cases hl : i < M.length
  ·show asg ow M.length 0 i = 0
   rw [asg_lt hl]
   by_cases e : ow i = 0
   ·exact e
   ·rw [hcl i hl e] at hi; cases hi
  ·exact asg_ge (by omega)
theorem set_getT {α : Type} {l : List α} {i k : Nat} {x : α} (hi : i < l.length) : (l.set i x)[k]? = if k = i then some x else l[k]? := by
 by_cases e : k = i
 ·subst e; rw [if_pos rfl, List.getElem?_set_self hi]
 ·rw [if_neg e, List.getElem?_set_ne (Ne.symm e)]
theorem Side.clkCall {f : FuncId} {args : Array Value} {k ck : Nat} {o o' : Option Ck} {R : Value → Prop} (h : Side m ow M (dobj n0 bk B av ps cs)) (hk : cs[k]? = some (ck, o))
  (hc : CSt (vw (fun j => ow j = k + 2) M) bk ck o → ACall Try.prog f args (vw (fun j => ow j = k + 2) M) (fun r M' => R r ∧ CSt M' bk ck o' ∧ ∃ D : Nat → Prop, Keep D (vw (fun j => ow j = k + 2) M) M' ∧ ∀ j, D j → ow j = k + 2)) :
  ACall Try.prog f args M (fun r M2 => R r ∧ M.length ≤ M2.length ∧ (∀ j, j < M.length → ow j ≠ k + 2 → M2[j]? = M[j]?) ∧ Side m (asg ow M.length (k + 2)) M2 (dobj n0 bk B av ps (cs.set k (ck, o')))) := by
 have hkl := (List.getElem?_eq_some_iff.1 hk).1
 refine (ACall.frame (fun j => ow j = k + 2) (hc (h.at_ (k + 2) _ hk))).mono ?_
 rintro r M2 ⟨M', ⟨hR, hC, D, hD, hDo⟩, hF⟩
 refine ⟨hR, hF.len, fun j hj hn => hF.out j hj hn, ?_⟩
 have hcl := hD.clean hDo
 refine h.call (I := fun i => i = k + 2) hF hcl (by omega) (fun j hj hn => asg_lt hj) (fun i hi => ?_) ?_ dobj_mono
 ·rcases i with _ | _ | i
  ·rfl
  ·rfl
  ·funext A
   show (∀ c, (cs.set k (ck, o'))[i]? = some c → _) = (∀ c, cs[i]? = some c → _)
   rw [set_getT hkl, if_neg (by omega)]
 ·rintro i rfl
  intro c hcc
  rw [set_getT hkl, if_pos rfl] at hcc
  injection hcc with hcc
  subst hcc
  refine hC.msub (MSub.all fun i b hi => ?_)
  by_cases hl : i < M.length
  ·show asg ow M.length (k + 2) i = k + 2
   rw [asg_lt hl]
   by_cases e : ow i = k + 2
   ·exact e
   ·rw [hcl i hl e] at hi; cases hi
  ·exact asg_ge (by omega)
end
theorem un31 : Try.prog.underlying 31 = some (.int .u64) := by kernel_rfl
theorem Side.sub {m : AM} {ow : Nat → Nat} {M : AM} {obj : Nat → AM → Prop} (h : Side m ow M obj) : Sub m M := ⟨h.len, fun i b hi => by rw [(h.base i (List.getElem?_eq_some_iff.1 hi).1).1]; exact hi⟩
theorem RdL.sub {M M' : AM} {a o : Nat} {c : List Value} (h : RdL M a o c) (hs : Sub M M') : RdL M' a o c := by
 obtain ⟨b, h1, h2⟩ := h
 exact ⟨b, hs.get a b h1, h2⟩
theorem Side.post {m : AM} {ow : Nat → Nat} {M : AM} {n0 bk : Nat} {B : Bk} {av : Value} {ps : List Nat} {cs : List (Nat × Option Ck)} {X N : AM} {r : Value} {l : List Tr} (h : Side m ow X (dobj n0 bk B av ps cs)) (hN : M = X ++ N) (hr : Row M X.length 4 r (tcs (l.take 18)) (l.take 18).length) (hg : Good B) (hpl : B.P.length ≤ 1000000) :
  ACall Try.prog 28 #[.pointer (some ⟨bk, 0, none⟩), r] M (fun v M2 => v = .tuple #[.int .i64 (postF B l).2.1, .int .i64 (postF B l).2.2] ∧ M.length ≤ M2.length ∧ (∀ j, j < X.length → ow j ≠ 0 → M2[j]? = X[j]?) ∧ ∃ ow', (∀ j, j < X.length → ow' j = ow j) ∧ Side m ow' M2 (dobj n0 bk (postF B l).1 av ps cs)) := by
 subst hN
 have h1 := h.app N 0
 have hl18 : (l.take 18).length ≤ 18 := by rw [List.length_take]; omega
 refine (h1.bookCall (R := fun v => v = .tuple #[.int .i64 (postF B (l.take 18)).2.1, .int .i64 (postF B (l.take 18)).2.2]) (B' := (postF B (l.take 18)).1) fun pv hB => ?_).mono ?_
 ·have hrv : Row (vw (fun j => asg ow X.length 0 j = 0) (X ++ N)) X.length 4 r (tcs (l.take 18)) (l.take 18).length := hr.vw fun a ha => asg_ge ha
  have h0 := hB.lt
  refine (Post_ok hB (l := l.take 18) (fun M' hF => Row.trsKeep hB.row (fun a y hr => (hB.sep hr).1) hrv (by omega) hF) hg.bd hpl (by omega)).mono ?_
  rintro v M' ⟨u, e1, e2, e3, _, _⟩
  exact ⟨e1, u, e2, e3.keep⟩
 ·rintro v M2 ⟨e1, e2, e3, e4⟩
  rw [(postF_take B l).1] at e4
  rw [(postF_take B l).2] at e1
  by_cases hz : (postF B l).2.2 = 0
  ·have hz' : (postF B (l.take 18)).2.2 = 0 := by rw [(postF_take B l).2]; exact hz
   rw [postF_num hz', ← postF_num hz] at e1
   exact ⟨e1, e2, fun j hj hn => by rw [e3 j (by rw [List.length_append]; omega) (by rw [asg_lt hj]; exact hn), List.getElem?_append_left hj], _, fun j hj => by rw [asg_lt (by rw [List.length_append]; omega), asg_lt hj], e4⟩
  ·have hz' : (postF B (l.take 18)).2.2 ≠ 0 := by rw [(postF_take B l).2]; exact hz
   rw [(postF_bad hz').2, ← (postF_bad hz).2] at e1
   exact ⟨e1, e2, fun j hj hn => by rw [e3 j (by rw [List.length_append]; omega) (by rw [asg_lt hj]; exact hn), List.getElem?_append_left hj], _, fun j hj => by rw [asg_lt (by rw [List.length_append]; omega), asg_lt hj], e4⟩
theorem Row.vw2 {S : Nat → Prop} {M : AM} {b0 s : Nat} {u : Value} {c : List Value} {n : Nat} (h : Row M b0 s u c n) (hs : ∀ a, ¬ NotOf u a → S a) : Row (Abs.vw S M) b0 s u c n := by
 rcases h with h | ⟨a, kd, sz, h1, h2, h3, h4, h5⟩
 ·exact .inl h
 ·exact .inr ⟨a, kd, sz, h1, h2, vw_some.2 ⟨hs a (fun hn => hn _ _ h2), h3⟩, h4, h5⟩
theorem Side.row {m : AM} {ow : Nat → Nat} {M : AM} {n0 bk : Nat} {B : Bk} {av : Value} {ps : List Nat} {cs : List (Nat × Option Ck)} (h : Side m ow M (dobj n0 bk B av ps cs)) : Row M n0 1 av (ps.map fun c => .pointer (some ⟨c, 0, none⟩)) ps.length := Row.msub (h.at_ 1) (Sub.vw _ _).m
def moO (o : Option Ck) (x : Tr) : Option Ck := o.map fun K => (moF K x).2
def moE (o : Option Ck) (x : Tr) : Int := match o with
 | none => 9
 | some K => (moF K x).1
section
variable {m : AM} {ow : Nat → Nat} {M : AM} {n0 bk : Nat} {B : Bk} {av : Value} {ps : List Nat} {cs : List (Nat × Option Ck)}
theorem Side.move {k ck : Nat} {o : Option Ck} (h : Side m ow M (dobj n0 bk B av ps cs)) (hk : cs[k]? = some (ck, o)) (ho : ∀ K, o = some K → OKK K) (x : Tr) :
  ACall Try.prog 33 #[.pointer (some ⟨ck, 0, none⟩), x.v] M (fun r M2 => r = .int .i64 (moE o x) ∧ M.length ≤ M2.length ∧ (∀ j, j < M.length → ow j ≠ k + 2 → M2[j]? = M[j]?) ∧ Side m (asg ow M.length (k + 2)) M2 (dobj n0 bk B av ps (cs.set k (ck, moO o x)))) := by
 refine h.clkCall hk fun hC => ?_
 cases o with
 | none =>
  refine (Move_done x hC).mono ?_
  rintro r M' ⟨rfl, N, rfl⟩
  exact ⟨rfl, hC.msub (Sub.app _ N).m, fun _ => False, Keep.app _ _ _, fun _ h => h.elim⟩
 | some K =>
  obtain ⟨q, mvv, hC⟩ := hC
  have hK := ho K rfl
  refine (Move_ok hC hK.bd (by have := hK.n; omega)).mono ?_
  rintro r M' ⟨mvv', rfl, hC', hkp, _⟩
  exact ⟨rfl, ⟨q, mvv', hC'⟩, ckD ck q mvv, hkp, fun j hj => hC.in_ j hj⟩
end
def Alive (cs : List (Nat × Option Ck)) : Prop := ∀ c ∈ cs, ∀ K, c.2 = some K → OKK K
theorem Alive.set {cs : List (Nat × Option Ck)} (h : Alive cs) (j ck : Nat) (o : Option Ck) (ho : ∀ K, o = some K → OKK K) : Alive (cs.set j (ck, o)) := fun c hc K hK => by
 rcases List.mem_or_eq_of_mem_set hc with hc | rfl
 ·exact h c hc K hK
 ·exact ho K hK
theorem set_selfT {α : Type} {l : List α} {j : Nat} {x : α} (h : l[j]? = some x) : l.set j x = l := by
 apply List.ext_getElem?
 intro i
 rw [set_getT (List.getElem?_eq_some_iff.1 h).1]
 by_cases e : i = j
 ·subst e; rw [if_pos rfl, h]
 ·rw [if_neg e]
def heO (o : Option Ck) (p i : Int) : Option Ck := o.map fun K => (chF K p i).2.2
def heR (o : Option Ck) (p i : Int) : Int × Int := match o with
 | none => (0, 9)
 | some K => ((chF K p i).1, (chF K p i).2.1)
theorem Side.held {m : AM} {ow : Nat → Nat} {M : AM} {n0 bk : Nat} {B : Bk} {av : Value} {ps : List Nat} {cs : List (Nat × Option Ck)} {k ck : Nat} {o : Option Ck} (h : Side m ow M (dobj n0 bk B av ps cs)) (hk : cs[k]? = some (ck, o)) (p i : Int) :
  ACall Try.prog 31 #[.pointer (some ⟨ck, 0, none⟩), .int .i64 p, .int .i64 i] M (fun r M2 => r = .tuple #[.int .i64 (heR o p i).1, .int .i64 (heR o p i).2] ∧ M.length ≤ M2.length ∧ (∀ j, j < M.length → ow j ≠ k + 2 → M2[j]? = M[j]?) ∧ Side m (asg ow M.length (k + 2)) M2 (dobj n0 bk B av ps (cs.set k (ck, heO o p i)))) := by
 refine h.clkCall hk fun hC => ?_
 cases o with
 | none =>
  refine (Held_done p i hC).mono ?_
  rintro r M' ⟨rfl, rfl⟩
  exact ⟨rfl, hC, fun _ => False, Keep.refl _ _, fun _ h => h.elim⟩
 | some K =>
  obtain ⟨q, mvv, hC⟩ := hC
  refine (CHeld_ok p i hC).mono ?_
  rintro r M' ⟨rfl, hC', hkp⟩
  exact ⟨rfl, ⟨q, mvv, hC'⟩, (· = q), hkp, fun j hj => hC.in_ j (.inr (.inl hj))⟩
structure Stp where
 rd : Bool
 p : Nat
 i : Nat
 n : Int
 x : Tr
instance : Inhabited Stp := ⟨⟨false, 0, 0, 0, default⟩⟩
def Stp.c (s : Stp) : List Value := .bool s.rd :: .int .i64 (s.p : Nat) :: .int .i64 (s.i : Nat) :: .int .i64 s.n :: s.x.c
def goS (K : Ck) (s : Stp) : Ck := if s.rd = true then { K with seen := ((s.p : Int), (s.i : Int)) :: K.seen } else { K with mv := K.mv ++ [s.x], V := wth1 K.V s.x }
def okS (K : Ck) (s : Stp) : Prop := s.rd = true ∧ s.p < 16 ∧ s.i < 16 ∧ s.n = K.V.getD (s.p * 16 + s.i) 0 ∨ s.rd = false ∧ okT s.x = true ∧ K.mv.length < 16
def goL (K : Ck) (l : List Stp) : Ck := l.foldl goS K
theorem goL_snoc (K : Ck) (l : List Stp) (s : Stp) : goL K (l ++ [s]) = goS (goL K l) s := by simp [goL]
structure Ran (K0 : Ck) (l : List Stp) (K : Ck) : Prop where
 go : goL K0 l = K
 ok : ∀ j, j < l.length → okS (goL K0 (l.take j)) (l.getD j default)
theorem Ran.nil (K0 : Ck) : Ran K0 [] K0 := ⟨rfl, fun j h => absurd h (Nat.not_lt_zero _)⟩
theorem Ran.snoc {K0 K : Ck} {l : List Stp} {s : Stp} (h : Ran K0 l K) (hs : okS K s) : Ran K0 (l ++ [s]) (goS K s) := by
 refine ⟨by rw [goL_snoc, h.go], fun j hj => ?_⟩
 rw [List.length_append, List.length_singleton] at hj
 rcases Nat.lt_or_ge j l.length with hl | hl
 ·have e1 : (l ++ [s]).take j = l.take j := by rw [List.take_append_of_le_length (by omega)]
  have e2 : (l ++ [s]).getD j default = l.getD j default := by simp only [List.getD_eq_getElem?_getD]; rw [List.getElem?_append_left hl]
  rw [e1, e2]
  exact h.ok j hl
 ·obtain rfl : j = l.length := by omega
  have e1 : (l ++ [s]).take l.length = l := by rw [List.take_append_of_le_length (Nat.le_refl _), List.take_of_length_le (Nat.le_refl _)]
  have e2 : (l ++ [s]).getD l.length default = s := by simp
  rw [e1, e2, h.go]
  exact hs
theorem goS_seen (K : Ck) (s : Stp) : ∀ x ∈ K.seen, x ∈ (goS K s).seen := fun x hx => by
 unfold goS
 split
 ·exact List.mem_cons_of_mem _ hx
 ·exact hx
theorem goL_seen : ∀ (l : List Stp) (K : Ck), ∀ x ∈ K.seen, x ∈ (goL K l).seen
 | [], _, _, h => h
 | s :: l, K, x, h => goL_seen l (goS K s) x (goS_seen K s x h)
theorem Ran.seen {K0 K : Ck} {l : List Stp} (h : Ran K0 l K) (j : Nat) : ∀ x ∈ (goL K0 (l.take j)).seen, x ∈ K.seen := fun x hx => by
 have : K = goL (goL K0 (l.take j)) (l.drop j) := by
  rw [← h.go]
  unfold goL
  rw [← List.foldl_append, List.take_append_drop]
 rw [this]
 exact goL_seen _ _ x hx
theorem goS_same (K : Ck) (s : Stp) : (goS K s).at_ = K.at_ ∧ (goS K s).done = K.done := by
 unfold goS
 split <;> exact ⟨rfl, rfl⟩
def bkP (P : List (List Tr)) : Bk := P.foldl (fun B l => (postF B l).1) Bk.new
theorem bkP_snoc (P : List (List Tr)) (l : List Tr) : bkP (P ++ [l]) = (postF (bkP P) l).1 := by simp [bkP]
theorem Built.eq {B : Bk} (h : Built B) : bkP B.P = B := by
 induction h with
 | new => rfl
 | post h hz ih => rw [(postF_zero hz).2, bkP_snoc, ih]
theorem Built.good {B : Bk} (h : Built B) : Good B := by
 induction h with
 | new => exact Good.new
 | post h hz ih => exact ih.post _
theorem Built.take {B : Bk} (h : Built B) : ∀ k, k ≤ B.P.length → Built (bkP (B.P.take k)) ∧ (bkP (B.P.take k)).P = B.P.take k ∧ (k < B.P.length → (postF (bkP (B.P.take k)) (B.P.getD k [])).2.2 = 0) := by
 induction h with
 | new =>
  intro k hk
  rw [show Bk.new.P = [] from rfl, List.take_nil]
  exact ⟨.new, rfl, fun h => absurd h (Nat.not_lt_zero _)⟩
 | @post B l h hz ih =>
  intro k hk
  rw [(postF_zero hz).2] at hk ⊢
  rw [List.length_append, List.length_singleton] at hk ⊢
  rcases Nat.lt_or_ge k B.P.length with hl | hl
  ·have e1 : (B.P ++ [l]).take k = B.P.take k := by rw [List.take_append_of_le_length (by omega)]
   have e2 : (B.P ++ [l]).getD k [] = B.P.getD k [] := by simp only [List.getD_eq_getElem?_getD]; rw [List.getElem?_append_left hl]
   rw [e1, e2]
   obtain ⟨h1, h2, h3⟩ := ih k (by omega)
   exact ⟨h1, h2, fun _ => h3 hl⟩
  ·rcases Nat.lt_or_ge B.P.length k with hl2 | hl2
   ·obtain rfl : k = B.P.length + 1 := by omega
    rw [List.take_of_length_le (by simp), bkP_snoc, h.eq]
    exact ⟨.post h hz, (postF_zero hz).2, fun h => absurd h (by omega)⟩
   ·obtain rfl : k = B.P.length := by omega
    have e1 : (B.P ++ [l]).take B.P.length = B.P := by rw [List.take_append_of_le_length (Nat.le_refl _), List.take_of_length_le (Nat.le_refl _)]
    have e2 : (B.P ++ [l]).getD B.P.length [] = l := by simp
    rw [e1, e2, h.eq]
    exact ⟨h, rfl, fun _ => hz⟩
structure Rows (n0 : Nat) (A : AM) (vs : Nat → Value) (sz : Nat → Nat) (cc : Nat → List Value) (ns : Nat → Nat) : Prop where
 row : ∀ i, Row A n0 (sz i) (vs i) (cc i) (ns i)
 dis : ∀ i j, i ≠ j → ∀ a, ¬ NotOf (vs i) a → NotOf (vs j) a
theorem Rows.msub {n0 : Nat} {A A' : AM} {vs : Nat → Value} {sz : Nat → Nat} {cc : Nat → List Value} {ns : Nat → Nat} (h : Rows n0 A vs sz cc ns) (hs : MSub A A') : Rows n0 A' vs sz cc ns := ⟨fun i => (h.row i).msub hs, h.dis⟩
theorem Rows.turn {n0 i : Nat} {A A' : AM} {vs vs' : Nat → Value} {sz : Nat → Nat} {cc cc' : Nat → List Value} {ns ns' : Nat → Nat} (h : Rows n0 A vs sz cc ns) (hr : Row A' n0 (sz i) (vs' i) (cc' i) (ns' i)) (hs : ∀ j b, A[j]? = some (some b) → NotOf (vs i) j → A'[j]? = some (some b))
  (hn : ∀ j b, A[j]? = some (some b) → NotOf (vs i) j → NotOf (vs' i) j) (he : ∀ k, k ≠ i → vs' k = vs k ∧ cc' k = cc k ∧ ns' k = ns k) : Rows n0 A' vs' sz cc' ns' := by
 have key : ∀ k, k ≠ i → ∀ a, ¬ NotOf (vs k) a → NotOf (vs' i) a := fun k hk a ha => by
  obtain ⟨b, hb⟩ := (h.row k).at_ ha
  exact hn a b hb (h.dis k i hk a ha)
 refine ⟨fun k => ?_, fun k l hkl a ha => ?_⟩
 ·by_cases e : k = i
  ·subst e; exact hr
  ·obtain ⟨e1, e2, e3⟩ := he k e
   rw [e1, e2, e3]
   rcases h.row k with h1 | ⟨a, kd, s, q1, q2, q3, q4, q5⟩
   ·exact .inl h1
   ·exact .inr ⟨a, kd, s, q1, q2, hs a _ q3 (h.dis k i e a fun hn => hn _ _ q2), q4, q5⟩
 ·by_cases e : k = i
  ·subst e
   rw [(he l (Ne.symm hkl)).1]
   exact Classical.byContradiction fun hc => ha (key l (Ne.symm hkl) a hc)
  ·rw [(he k e).1] at ha
   by_cases e2 : l = i
   ·subst e2; exact key k e a ha
   ·rw [(he l e2).1]
    exact h.dis k l hkl a ha
structure Wk where
 ck : Nat
 sv : Value
 st : List Stp
instance : Inhabited Wk := ⟨⟨0, .slice none 0 0, []⟩⟩
def Wk.c (w : Wk) : List Value := [.pointer (some ⟨w.ck, 0, none⟩), w.sv]
def stc (l : List Stp) : List Value := l.flatMap Stp.c
def lvs (av wv : Value) (ws : List Wk) : Nat → Value
 | 0 => av
 | 1 => wv
 | k + 2 => (ws.getD k default).sv
def lcc (al wl : List Value) (ws : List Wk) : Nat → List Value
 | 0 => al
 | 1 => wl
 | k + 2 => stc (ws.getD k default).st
def lns (wl : List Value) (ws : List Wk) : Nat → Nat
 | 0 => ws.length
 | 1 => wl.length
 | k + 2 => (ws.getD k default).st.length
def lsz : Nat → Nat
 | 0 => 2
 | 1 => 1
 | _ => 8
abbrev cobj (bk : Nat) (B : Bk) (cs : List (Nat × Option Ck)) : Nat → AM → Prop := dobj 0 bk B (.slice none 0 0) [] cs
structure Shop (m : AM) (ow : Nat → Nat) (M : AM) (bk bk2 : Nat) (B : Bk) (av : Value) (al : List Value) (wv : Value) (wl : List Value) (cs : List (Nat × Option Ck)) (ws : List Wk) : Prop where
 side : Side m ow M (cobj bk B cs)
 rows : Rows (m.length + 2) (vw (fun j => ow j = 1) M) (lvs av wv ws) lsz (lcc al wl ws) (lns wl ws)
 lo : m.length ≤ bk2
 hi : bk2 < m.length + 2
 two : ow bk2 = 1
 new : M[bk2]? = some (some { cells := bkc Bk.new.H Bk.new.C (.slice none 0 0) })
 big : m.length + 2 ≤ M.length
section
variable {m : AM} {ow : Nat → Nat} {M : AM} {bk bk2 : Nat} {B : Bk} {av wv : Value} {al wl : List Value} {cs : List (Nat × Option Ck)} {ws : List Wk}
theorem own_sub {ow ow' : Nat → Nat} {M M2 : AM} (hl : M.length ≤ M2.length) (h : ∀ j, j < M.length → ow j = 1 → M2[j]? = M[j]? ∧ ow' j = 1) : MSub (vw (fun j => ow j = 1) M) (vw (fun j => ow' j = 1) M2) := by
 refine ⟨by rw [vw_len, vw_len]; exact hl, fun i b _ hi => ?_⟩
 obtain ⟨q1, q2⟩ := vw_some.1 hi
 obtain ⟨e1, e2⟩ := h i (List.getElem?_eq_some_iff.1 q2).1 q1
 exact vw_some.2 ⟨e2, by rw [e1]; exact q2⟩
theorem Shop.call {ow' : Nat → Nat} {M2 : AM} {B' : Bk} {cs' : List (Nat × Option Ck)} (h : Shop m ow M bk bk2 B av al wv wl cs ws) (hl : M.length ≤ M2.length) (hk : ∀ j, j < M.length → ow j = 1 → M2[j]? = M[j]? ∧ ow' j = 1) (hS : Side m ow' M2 (cobj bk B' cs')) : Shop m ow' M2 bk bk2 B' av al wv wl cs' ws := by
 have hb := (List.getElem?_eq_some_iff.1 h.new).1
 obtain ⟨e1, e2⟩ := hk bk2 hb h.two
 exact ⟨hS, h.rows.msub (own_sub hl hk), h.lo, h.hi, e2, by rw [e1]; exact h.new, by have := h.big; omega⟩
theorem Shop.app (h : Shop m ow M bk bk2 B av al wv wl cs ws) (N : AM) (i : Nat) : Shop m (asg ow M.length i) (M ++ N) bk bk2 B av al wv wl cs ws :=
 h.call (by rw [List.length_append]; omega) (fun j hj ho => ⟨List.getElem?_append_left hj, by rw [asg_lt hj]; exact ho⟩) (h.side.app N i)
theorem Shop.row (h : Shop m ow M bk bk2 B av al wv wl cs ws) (i : Nat) : Row M (m.length + 2) (lsz i) (lvs av wv ws i) (lcc al wl ws i) (lns wl ws i) := (h.rows.row i).msub (Sub.vw _ _).m
theorem Shop.turn {M3 : AM} {av' wv' : Value} {al' wl' : List Value} {ws' : List Wk} (h : Shop m ow M bk bk2 B av al wv wl cs ws) (i : Nat) (hr : Row M3 (m.length + 2) (lsz i) (lvs av' wv' ws' i) (lcc al' wl' ws' i) (lns wl' ws' i)) (hl : M.length ≤ M3.length)
  (hk : ∀ j, j < M.length → NotOf (lvs av wv ws i) j → M3[j]? = M[j]?) (hk2 : ∀ j, j < M.length → NotOf (lvs av wv ws i) j → NotOf (lvs av' wv' ws' i) j) (he : ∀ k, k ≠ i → lvs av' wv' ws' k = lvs av wv ws k ∧ lcc al' wl' ws' k = lcc al wl ws k ∧ lns wl' ws' k = lns wl ws k) :
  Shop m (asg ow M.length 1) M3 bk bk2 B av' al' wv' wl' cs ws' := by
 have hR := h.rows.row i
 have hD : ∀ j, ¬ NotOf (lvs av wv ws i) j → ow j = 1 ∧ m.length + 2 ≤ j := fun j hj => by
  obtain ⟨b, hb⟩ := hR.at_ hj
  refine ⟨(vw_some.1 hb).1, ?_⟩
  rcases Nat.lt_or_ge j (m.length + 2) with hlt | hge
  ·exact absurd (NotOf.row hR hlt) hj
  ·exact hge
 have hb2 := (List.getElem?_eq_some_iff.1 h.new).1
 refine ⟨?_, ?_, h.lo, h.hi, by rw [asg_lt hb2]; exact h.two, ?_, by have := h.big; omega⟩
 ·refine h.side.law (D := fun j => ¬ NotOf (lvs av wv ws i) j) ⟨hl, fun j hj hn => hk j hj (Classical.byContradiction hn)⟩ (fun j hj => ⟨(hD j hj).1, by have := (hD j hj).2; omega⟩) (fun _ _ => rfl) Row.nil dobj_mono
 ·refine h.rows.turn (i := i) ?_ (fun j b hj hn => ?_) (fun j b hj hn => hk2 j ?_ hn) he
  ·refine Row.vw2 hr fun a ha => ?_
   by_cases hlt : a < M.length
   ·show asg ow M.length 1 a = 1
    rw [asg_lt hlt]
    exact (hD a fun hn => ha (hk2 a hlt hn)).1
   ·exact asg_ge (by omega)
  ·obtain ⟨q1, q2⟩ := vw_some.1 hj
   have hlt := (List.getElem?_eq_some_iff.1 q2).1
   exact vw_some.2 ⟨by show asg ow M.length 1 j = 1; rw [asg_lt hlt]; exact q1, by rw [hk j hlt hn]; exact q2⟩
  ·exact (List.getElem?_eq_some_iff.1 (vw_some.1 hj).2).1
 ·rw [hk bk2 hb2 (Classical.byContradiction fun hc => by have := (hD bk2 hc).2; have := h.hi; omega)]
  exact h.new
theorem getD_set_wk {ws : List Wk} {k : Nat} {w : Wk} (hk : k < ws.length) (j : Nat) : (ws.set k w).getD j default = if j = k then w else ws.getD j default := by
 simp only [List.getD_eq_getElem?_getD]
 rw [set_getT hk]
 split <;> rfl
theorem Shop.step {M3 : AM} {u : Value} {k : Nat} {w : Wk} {s : Stp} (h : Shop m ow M bk bk2 B av al wv wl cs ws) (hw : ws[k]? = some w) (hr : Row M3 (m.length + 2) 8 u (stc w.st ++ s.c) (w.st.length + 1))
  (hl : M.length ≤ M3.length) (hk : ∀ j, j < M.length → NotOf w.sv j → M3[j]? = M[j]?) (hk2 : ∀ j, j < M.length → NotOf w.sv j → NotOf u j) : Shop m (asg ow M.length 1) M3 bk bk2 B av al wv wl cs (ws.set k ⟨w.ck, u, w.st ++ [s]⟩) := by
 have hkl := (List.getElem?_eq_some_iff.1 hw).1
 have e0 : (ws.getD k default) = w := by rw [List.getD_eq_getElem?_getD, hw]; rfl
 have e1 : ((ws.set k ⟨w.ck, u, w.st ++ [s]⟩).getD k default) = ⟨w.ck, u, w.st ++ [s]⟩ := by rw [getD_set_wk hkl, if_pos rfl]
 refine h.turn (k + 2) ?_ hl ?_ ?_ fun j hj => ?_
 ·show Row M3 (m.length + 2) 8 ((ws.set k _).getD k default).sv (stc ((ws.set k _).getD k default).st) ((ws.set k _).getD k default).st.length
  rw [e1]
  show Row M3 _ 8 u (stc (w.st ++ [s])) (w.st ++ [s]).length
  rw [List.length_append, List.length_singleton, stc, List.flatMap_append, List.flatMap_cons, List.flatMap_nil, List.append_nil]
  exact hr
 ·show ∀ j, j < M.length → NotOf (ws.getD k default).sv j → _
  rw [e0]; exact hk
 ·show ∀ j, j < M.length → NotOf (ws.getD k default).sv j → NotOf ((ws.set k _).getD k default).sv j
  rw [e0, e1]; exact hk2
 ·rcases j with _ | _ | j
  ·exact ⟨rfl, rfl, by show (ws.set k _).length = ws.length; rw [List.length_set]⟩
  ·exact ⟨rfl, rfl, rfl⟩
  ·have e2 : (ws.set k ⟨w.ck, u, w.st ++ [s]⟩).getD j default = ws.getD j default := by rw [getD_set_wk hkl, if_neg (by omega)]
   exact ⟨by show Wk.sv _ = Wk.sv _; rw [e2], by show stc (Wk.st _) = stc (Wk.st _); rw [e2], by show (Wk.st _).length = (Wk.st _).length; rw [e2]⟩
theorem Shop.done {M3 : AM} {u sl : Value} (h : Shop m ow M bk bk2 B av al wv wl cs ws) (hr : Row M3 (m.length + 2) 1 u (wl ++ [sl]) (wl.length + 1)) (hl : M.length ≤ M3.length) (hk : ∀ j, j < M.length → NotOf wv j → M3[j]? = M[j]?) (hk2 : ∀ j, j < M.length → NotOf wv j → NotOf u j) :
  Shop m (asg ow M.length 1) M3 bk bk2 B av al u (wl ++ [sl]) cs ws := by
 refine h.turn 1 ?_ hl hk hk2 fun k hk => ?_
 ·show Row M3 (m.length + 2) 1 u (wl ++ [sl]) (wl ++ [sl]).length
  rw [List.length_append]
  exact hr
 ·rcases k with _ | _ | k
  ·exact ⟨rfl, rfl, rfl⟩
  ·exact absurd rfl hk
  ·exact ⟨rfl, rfl, rfl⟩
end
structure Tale (B : Bk) (wl : List Value) (cs : List (Nat × Option Ck)) (ws : List Wk) : Prop where
 built : Built B
 len : wl.length = B.P.length
 same : cs.length = ws.length
 ck : ∀ (k : Nat) (w : Wk), ws[k]? = some w → ∃ o, cs[k]? = some (w.ck, o)
 run : ∀ (k : Nat) (w : Wk) (ck : Nat) (K : Ck), ws[k]? = some w → cs[k]? = some (ck, some K) → OKK K ∧ K.at_ ≤ B.P.length ∧ Ran ⟨K.at_, (bkP (B.P.take K.at_)).H, [], [], false⟩ w.st K
 rec_ : ∀ i, i < B.P.length → wl.getD i default = .slice none 0 0 ∨ ∃ (k : Nat) (w : Wk) (ck : Nat) (K : Ck) (a : Nat), ws[k]? = some w ∧ cs[k]? = some (ck, none) ∧ wl.getD i default = w.sv ∧ a ≤ i ∧ Ran ⟨a, (bkP (B.P.take a)).H, [], [], false⟩ w.st K ∧ stale K (bkP (B.P.take i)) = false ∧ (∀ x ∈ K.seen, inB x.1 x.2 = true) ∧ K.mv = B.P.getD i []
section
variable {B : Bk} {wl : List Value} {cs : List (Nat × Option Ck)} {ws : List Wk}
theorem Tale.new : Tale Bk.new [] [] [] := ⟨.new, rfl, rfl, fun k w h => by simp at h, fun k w ck K h => by simp at h, fun i h => absurd h (Nat.not_lt_zero _)⟩
theorem Tale.step (h : Tale B wl cs ws) {k ck : Nat} {K : Ck} {w : Wk} {s : Stp} (hw : ws[k]? = some w) (hc : cs[k]? = some (ck, some K)) (hs : okS K s) (hok : OKK (goS K s)) (u : Value) : Tale B wl (cs.set k (ck, some (goS K s))) (ws.set k ⟨w.ck, u, w.st ++ [s]⟩) := by
 have hkw := (List.getElem?_eq_some_iff.1 hw).1
 have hkc := (List.getElem?_eq_some_iff.1 hc).1
 have eck : ck = w.ck := by
  obtain ⟨o, ho⟩ := h.ck k w hw
  rw [hc] at ho
  injection ho with ho
  injection ho
 refine ⟨h.built, h.len, by simp [h.same], fun j w' hw' => ?_, fun j w' ck' K' hw' hc' => ?_, fun i hi => ?_⟩
 ·rw [set_getT hkw] at hw'
  rw [set_getT hkc]
  by_cases e : j = k
  ·rw [if_pos e] at hw' ⊢
   injection hw' with hw'
   subst hw'
   exact ⟨_, by rw [eck]⟩
  ·rw [if_neg e] at hw' ⊢
   exact h.ck j w' hw'
 ·rw [set_getT hkw] at hw'
  rw [set_getT hkc] at hc'
  by_cases e : j = k
  ·rw [if_pos e] at hw' hc'
   injection hw' with hw'
   injection hc' with hc'
   injection hc' with _ hc'
   injection hc' with hc'
   subst hw' hc'
   obtain ⟨r1, r2, r3⟩ := h.run k w ck K hw hc
   rw [(goS_same K s).1]
   exact ⟨hok, r2, r3.snoc hs⟩
  ·rw [if_neg e] at hw' hc'
   exact h.run j w' ck' K' hw' hc'
 ·rcases h.rec_ i hi with e | ⟨j, w', ck', K', a, q1, q2, q3⟩
  ·exact .inl e
  ·have e : j ≠ k := fun e => by rw [e, hc] at q2; injection q2 with q2; injection q2 with _ q2; cases q2
   exact .inr ⟨j, w', ck', K', a, by rw [set_getT hkw, if_neg e]; exact q1, by rw [set_getT hkc, if_neg e]; exact q2, q3⟩
theorem take_app {α : Type} {P : List α} {k : Nat} (h : k ≤ P.length) (l : List α) : (P ++ l).take k = P.take k := by rw [List.take_append_of_le_length h]
theorem Tale.grow (h : Tale B wl cs ws) {l : List Tr} (hz : (postF B l).2.2 = 0) (sl : Value) (hn : sl = .slice none 0 0 ∨ ∃ (k : Nat) (w : Wk) (ck : Nat) (K : Ck) (a : Nat), ws[k]? = some w ∧ cs[k]? = some (ck, none) ∧ sl = w.sv ∧ a ≤ B.P.length ∧ Ran ⟨a, (bkP (B.P.take a)).H, [], [], false⟩ w.st K ∧ stale K B = false ∧ (∀ x ∈ K.seen, inB x.1 x.2 = true) ∧ K.mv = l) :
  Tale (postF B l).1 (wl ++ [sl]) cs ws := by
 have hP := (postF_zero hz).2
 have hl := h.len
 refine ⟨.post h.built hz, by rw [hP]; simp [hl], h.same, h.ck, fun j w' ck' K' hw' hc' => ?_, fun i hi => ?_⟩
 ·obtain ⟨r1, r2, r3⟩ := h.run j w' ck' K' hw' hc'
  rw [hP, List.length_append, take_app r2]
  exact ⟨r1, by omega, r3⟩
 ·rw [hP, List.length_append, List.length_singleton] at hi
  rw [hP]
  rcases Nat.lt_or_ge i B.P.length with hlt | hge
  ·have e1 : (wl ++ [sl]).getD i default = wl.getD i default := by simp only [List.getD_eq_getElem?_getD]; rw [List.getElem?_append_left (by omega)]
   have e2 : (B.P ++ [l]).getD i [] = B.P.getD i [] := by simp only [List.getD_eq_getElem?_getD]; rw [List.getElem?_append_left hlt]
   rw [e1, e2, take_app (by omega)]
   rcases h.rec_ i hlt with e | ⟨j, w', ck', K', a, q1, q2, q3, q4, q5, q6⟩
   ·exact .inl e
   ·exact .inr ⟨j, w', ck', K', a, q1, q2, q3, q4, by rw [take_app (by omega)]; exact q5, q6⟩
  ·obtain rfl : i = B.P.length := by omega
   have e1 : (wl ++ [sl]).getD B.P.length default = sl := by rw [← hl]; simp
   have e2 : (B.P ++ [l]).getD B.P.length [] = l := by simp
   rw [e1, e2, take_app (Nat.le_refl _), List.take_of_length_le (Nat.le_refl _), h.built.eq]
   rcases hn with e | ⟨j, w', ck', K', a, q1, q2, q3, q4, q5, q6⟩
   ·exact .inl e
   ·exact .inr ⟨j, w', ck', K', a, q1, q2, q3, q4, by rw [take_app q4]; exact q5, q6⟩
theorem Tale.post (h : Tale B wl cs ws) (l : List Tr) :
  (postF B l).2.1 = 0 ∧ Tale (postF B l).1 wl cs ws ∨ (postF B l).2.1 = ((postF B l).1.P.length : Int) ∧ (postF B l).1.P.length = wl.length + 1 ∧ Tale (postF B l).1 (wl ++ [.slice none 0 0]) cs ws := by
 by_cases hz : (postF B l).2.2 = 0
 ·have hP := (postF_zero hz).2
  exact .inr ⟨by rw [postF_num hz, hP]; simp, by rw [hP]; simp [h.len], h.grow hz _ (.inl rfl)⟩
 ·obtain ⟨e1, e2⟩ := postF_bad hz
  exact .inl ⟨e2, by rw [e1]; exact h⟩
end
def rkc (xb a : Nat) (rv mvv : Value) (d : Bool) : List Value := [.pointer (some ⟨xb, 0, none⟩), .int .i64 (a : Nat), rv, mvv, .bool d]
def kyc (l : List (Int × Int)) : List Value := l.flatMap fun x => [.int .i64 x.1, .int .i64 x.2]
structure RClerkAt (M : AM) (xk : Nat) (rv mvv : Value) (xb : Nat) (K : Ck) : Prop where
 cells : M[xk]? = some (some { cells := rkc xb K.at_ rv mvv K.done })
 reads : Row M 0 2 rv (kyc K.seen.reverse) K.seen.length
 row : Row M 0 4 mvv (tcs K.mv) K.mv.length
 lb : xb < M.length
 ar : NotOf rv xk
 am : NotOf mvv xk
 dis : ∀ j, ¬ NotOf rv j → NotOf mvv j
def rkD (xk : Nat) (rv mvv : Value) : Nat → Prop := fun j => j = xk ∨ ¬ NotOf rv j ∨ ¬ NotOf mvv j
def RDone (M : AM) (xk xb : Nat) : Prop := ∃ b, M[xk]? = some (some b) ∧ b.kind.mine = true ∧ b.cells[0]? = some (.pointer (some ⟨xb, 0, none⟩)) ∧ b.cells[4]? = some (.bool true) ∧ xb < M.length
theorem RClerkAt.lt {M : AM} {xk xb : Nat} {rv mvv : Value} {K : Ck} (h : RClerkAt M xk rv mvv xb K) : xk < M.length := (List.getElem?_eq_some_iff.1 h.cells).1
theorem RClerkAt.rd {M : AM} {xk xb : Nat} {rv mvv : Value} {K : Ck} (h : RClerkAt M xk rv mvv xb K) (T : AM) (j : Nat) (v : Value) (hv : (rkc xb K.at_ rv mvv K.done)[j]? = some v) : Rd (M ++ T) xk j v := Rd.old T ⟨_, h.cells, hv⟩
theorem Row.rd {M : AM} {b0 s : Nat} {u : Value} {c : List Value} {n a q : Nat} {v : Value} (h : Row M b0 s u c n) (hs : Sl u a 0 n) (hn : 0 < n) (hv : c[q]? = some v) (T : AM) : Rd (M ++ T) a q v := by
 obtain ⟨a', kd, sz, q1, q2, q3, q4⟩ := h.pos hn
 refine Rd.old T ⟨{ cells := c, kind := kd, size := sz }, ?_, hv⟩
 rcases hs with ⟨_, e⟩ | ⟨c', _, e⟩ | ⟨e, _⟩
 ·omega
 ·rw [q3] at e
  simp only [Value.slice.injEq, Option.some.injEq, Addr.mk.injEq] at e
  rw [← e.1.1]
  exact q4
 ·omega
theorem Side.one {m : AM} {ow : Nat → Nat} {M : AM} {obj obj' : Nat → AM → Prop} {f : FuncId} {args : Array Value} {i : Nat} {R : Value → Prop} (h : Side m ow M obj) (hi : i ≠ 1) (hm : ∀ k A A', MSub A A' → obj' k A → obj' k A') (he : ∀ k, k ≠ i → obj' k = obj k)
  (hc : obj i (vw (fun j => ow j = i) M) → ACall Try.prog f args (vw (fun j => ow j = i) M) (fun r M' => R r ∧ obj' i M' ∧ ∃ D : Nat → Prop, Keep D (vw (fun j => ow j = i) M) M' ∧ ∀ j, D j → ow j = i)) :
  ACall Try.prog f args M (fun r M2 => R r ∧ M.length ≤ M2.length ∧ (∀ j, j < M.length → ow j ≠ i → M2[j]? = M[j]?) ∧ Side m (asg ow M.length i) M2 obj') := by
 refine (ACall.frame (fun j => ow j = i) (hc (h.at_ i))).mono ?_
 rintro r M2 ⟨M', ⟨hR, hQ, D, hD, hDo⟩, hF⟩
 refine ⟨hR, hF.len, fun j hj hn => hF.out j hj hn, ?_⟩
 have hcl := hD.clean hDo
 refine h.call (I := fun k => k = i) hF hcl (fun e => hi e.symm) (fun j hj hn => asg_lt hj) (fun k hk => he k hk) ?_ hm
 rintro k rfl
 refine hm _ _ _ (MSub.all fun j b hj => ?_) hQ
 by_cases hl : j < M.length
 ·show asg ow M.length k j = k
  rw [asg_lt hl]
  by_cases e : ow j = k
  ·exact e
  ·rw [hcl j hl e] at hj; cases hj
 ·exact asg_ge (by omega)
theorem RDone.msub {M M' : AM} {xk xb : Nat} (h : RDone M xk xb) (hs : MSub M M') : RDone M' xk xb := by
 obtain ⟨b, h1, h2, h3, h4, h5⟩ := h
 exact ⟨b, hs.get _ _ h2 h1, h2, h3, h4, by have := hs.len; omega⟩
theorem RClerkAt.msub {M M' : AM} {xk xb : Nat} {rv mvv : Value} {K : Ck} (h : RClerkAt M xk rv mvv xb K) (hs : MSub M M') : RClerkAt M' xk rv mvv xb K :=
 ⟨hs.get _ _ rfl h.cells, h.reads.msub hs, h.row.msub hs, by have := hs.len; have := h.lb; omega, h.ar, h.am, h.dis⟩
def RCSt (M : AM) (xb xk : Nat) : Option Ck → Prop
 | none => RDone M xk xb
 | some K => ∃ rv mvv, RClerkAt M xk rv mvv xb K
theorem RCSt.msub {M M' : AM} {xb xk : Nat} {o : Option Ck} (h : RCSt M xb xk o) (hs : MSub M M') : RCSt M' xb xk o := by
 cases o with
 | none => exact RDone.msub h hs
 | some K => obtain ⟨rv, v, h⟩ := h; exact ⟨rv, v, h.msub hs⟩
theorem RClerkAt.in_ {S : Nat → Prop} {M : AM} {xk xb : Nat} {rv mvv : Value} {K : Ck} (h : RClerkAt (vw S M) xk rv mvv xb K) : ∀ i, rkD xk rv mvv i → S i := fun i hi => by
 rcases hi with rfl | hi | hi
 ·exact (vw_some.1 h.cells).1
 ·obtain ⟨b, hb⟩ := h.reads.at_ hi
  exact (vw_some.1 hb).1
 ·obtain ⟨b, hb⟩ := h.row.at_ hi
  exact (vw_some.1 hb).1
theorem RClerkAt.vw {S : Nat → Prop} {M : AM} {xk xb : Nat} {rv mvv : Value} {K : Ck} (h : RClerkAt M xk rv mvv xb K) (hS : ∀ j, rkD xk rv mvv j → S j) : RClerkAt (Abs.vw S M) xk rv mvv xb K := by
 obtain ⟨h1, h2, h3, h4, h5, h6, h7⟩ := h
 exact ⟨vw_some.2 ⟨hS _ (.inl rfl), h1⟩, h2.vw2 fun a ha => hS a (.inr (.inl ha)), h3.vw2 fun a ha => hS a (.inr (.inr ha)), by rw [vw_len]; exact h4, h5, h6, h7⟩
structure Ob where
 rf : Bool
 pl : Nat
 o : Option Ck
def Ob.st (A : AM) (bk xb : Nat) (x : Ob) : Prop := if x.rf = true then RCSt A xb x.pl x.o else CSt A bk x.pl x.o
def prc (ps : List (Nat × Nat)) : List Value := ps.flatMap fun x => [.pointer (some ⟨x.1, 0, none⟩), .pointer (some ⟨x.2, 0, none⟩)]
def bobj (n0 bk : Nat) (B : Bk) (xb : Nat) (P : List (List Tr)) (av : Value) (ps : List (Nat × Nat)) (os : List Ob) : Nat → AM → Prop
 | 0, A => ∃ pv, BookAt A 0 bk B pv
 | 1, A => Row A n0 2 av (prc ps) ps.length
 | 2, A => ∃ pv, RBook A n0 xb P pv
 | k + 3, A => ∀ x, os[k]? = some x → x.st A bk xb
section
variable {m : AM} {ow : Nat → Nat} {M : AM} {n0 bk xb : Nat} {B : Bk} {P : List (List Tr)} {av : Value} {ps : List (Nat × Nat)} {os : List Ob}
end
structure KOK (P : List (List Tr)) (K : Ck) : Prop where
 okk : OKK K
 le : K.at_ ≤ P.length
 lV : K.V.length = 256
 val : ∀ p i : Nat, p < 16 → i < 16 → K.V.getD (p * 16 + i) 0 = hsum p i ((P.take K.at_).flatten ++ K.mv)
theorem KOK.grow {P : List (List Tr)} {K : Ck} (h : KOK P K) (L : List (List Tr)) : KOK (P ++ L) K :=
 ⟨h.okk, by rw [List.length_append]; have := h.le; omega, h.lV, fun p i hp hi => by rw [List.take_append_of_le_length h.le]; exact h.val p i hp hi⟩
theorem postF_grow (B : Bk) (l : List Tr) : ∃ L, (postF B l).1.P = B.P ++ L := by
 by_cases hz : (postF B l).2.2 = 0
 ·exact ⟨[l], (postF_zero hz).2⟩
 ·exact ⟨[], by rw [(postF_bad hz).1, List.append_nil]⟩
theorem KOK.post {B : Bk} {K : Ck} (h : KOK B.P K) (l : List Tr) : KOK (postF B l).1.P K := by
 obtain ⟨L, e⟩ := postF_grow B l
 rw [e]; exact h.grow L
theorem KOK.new {B : Bk} (h : Good B) : KOK B.P ⟨B.P.length, B.H, [], [], false⟩ :=
 ⟨⟨rfl, Nat.zero_le _, rfl, h.bd.le (by simp), fun x hx => absurd hx List.not_mem_nil⟩, Nat.le_refl _, h.lH, fun p i hp hi => by simp only [List.take_length, List.append_nil]; exact h.H p i hp hi⟩
theorem KOK.move {P : List (List Tr)} {K : Ck} (h : KOK P K) (x : Tr) : KOK P (moF K x).2 := by
 have ho := h.okk.moF x
 unfold moF at ho ⊢
 rw [if_neg (by rw [h.okk.dn]; simp)] at ho ⊢
 by_cases hx : okT x = true
 ·rw [if_pos hx] at ho ⊢
  by_cases h16 : 16 ≤ K.mv.length
  ·rw [if_pos h16]; exact h
  ·rw [if_neg h16] at ho ⊢
   refine ⟨ho, h.le, by show (wth1 K.V x).length = 256; rw [wth1_len, h.lV], fun p i hp hi => ?_⟩
   show (wth1 K.V x).getD (p * 16 + i) 0 = hsum p i ((P.take K.at_).flatten ++ (K.mv ++ [x]))
   rw [wth1_get h.lV hx hp hi, h.val p i hp hi, ← List.append_assoc, hsum_app p i (_ ++ K.mv) [x], hsum_one]
 ·rw [if_neg hx]; exact h
theorem KOK.held {P : List (List Tr)} {K : Ck} (h : KOK P K) (p i : Int) : KOK P (chF K p i).2.2 := by
 have ho := h.okk.chF p i
 unfold chF at ho ⊢
 rw [if_neg (by rw [h.okk.dn]; simp)] at ho ⊢
 by_cases hi : inB p i = true
 ·rw [if_pos hi] at ho ⊢
  exact ⟨ho, h.le, h.lV, h.val⟩
 ·rw [if_neg hi]; exact h
theorem KOK.seen {P : List (List Tr)} {K : Ck} (h : KOK P K) (p i : Int) : (chF K p i).2.2.seen.length ≤ K.seen.length + 1 := by
 unfold chF
 rw [if_neg (by rw [h.okk.dn]; simp)]
 split
 ·simp
 ·simp
def Lft (m : AM) (ow : Nat → Nat) (M M2 : AM) (obj : Nat → AM → Prop) : Prop := ∃ ow', M.length ≤ M2.length ∧ (∀ j, j < M.length → ow j = 1 → M2[j]? = M[j]? ∧ ow' j = 1) ∧ Side m ow' M2 obj
theorem Lft.of {m M M2 : AM} {ow : Nat → Nat} {obj : Nat → AM → Prop} {i : Nat} (hi : i ≠ 1) (h : M.length ≤ M2.length ∧ (∀ j, j < M.length → ow j ≠ i → M2[j]? = M[j]?) ∧ Side m (asg ow M.length i) M2 obj) : Lft m ow M M2 obj :=
 ⟨asg ow M.length i, h.1, fun j hj hn => ⟨h.2.1 j hj (by rw [hn]; exact fun e => hi e.symm), by rw [asg_lt hj]; exact hn⟩, h.2.2⟩
theorem Lft.trans {m M M2 M3 : AM} {ow ow1 : Nat → Nat} {obj : Nat → AM → Prop} (h1 : M.length ≤ M2.length) (h2 : ∀ j, j < M.length → ow j = 1 → M2[j]? = M[j]? ∧ ow1 j = 1) (h : Lft m ow1 M2 M3 obj) : Lft m ow M M3 obj := by
 obtain ⟨ow2, q1, q2, q3⟩ := h
 refine ⟨ow2, by omega, fun j hj hn => ?_, q3⟩
 obtain ⟨e1, e2⟩ := h2 j hj hn
 obtain ⟨f1, f2⟩ := q2 j (by omega) e2
 exact ⟨by rw [f1, e1], f2⟩
section
variable {m : AM} {ow : Nat → Nat} {M : AM} {n0 bk xb : Nat} {B : Bk} {P : List (List Tr)} {av : Value} {ps : List (Nat × Nat)} {os : List Ob} {k : Nat} {o : Option Ck}
end
structure Ar where
 b : List UInt8
 s : Nat
structure Dk where
 off : Bool
 fused : Bool
 left : Nat
 a0 : Ar
 a1 : Ar
 most : Nat
def Dk.ar (D : Dk) (n : Nat) : Ar := if n = 0 then D.a0 else D.a1
def Dk.put (D : Dk) (n : Nat) (x : Ar) : Dk := if n = 0 then { D with a0 := x } else { D with a1 := x }
structure OkD (D : Dk) : Prop where
 lo : 64 ≤ D.most
 hi : D.most ≤ 1048576
 l0 : D.a0.b.length ≤ D.most
 l1 : D.a1.b.length ≤ D.most
 s0 : D.a0.s ≤ D.a0.b.length
 s1 : D.a1.s ≤ D.a1.b.length
 lf : D.left ≤ 9223372036854775807
def dkc (D : Dk) (u0 u1 : Value) : List Value := [.bool D.off, .bool D.fused, .int .i64 (D.left : Nat), u0, .int .i64 (D.a0.s : Nat), u1, .int .i64 (D.a1.s : Nat), .int .i64 (D.most : Nat)]
structure DiskAt (M : AM) (b0 dk : Nat) (D : Dk) (u0 u1 : Value) : Prop where
 lo : b0 ≤ dk
 cells : M[dk]? = some (some { cells := dkc D u0 u1 })
 r0 : RowC M b0 u0 D.a0.b
 r1 : RowC M b0 u1 D.a1.b
 n0 : NotB u0 dk
 n1 : NotB u1 dk
 dis : ∀ j, NotB u0 j ∨ NotB u1 j
 ok : OkD D
def dkD (dk : Nat) (u0 u1 : Value) : Nat → Prop := fun j => j = dk ∨ ¬ NotB u0 j ∨ ¬ NotB u1 j
theorem DiskAt.lt {M : AM} {b0 dk : Nat} {D : Dk} {u0 u1 : Value} (h : DiskAt M b0 dk D u0 u1) : dk < M.length := (List.getElem?_eq_some_iff.1 h.cells).1
theorem DiskAt.at_ {M : AM} {b0 dk : Nat} {D : Dk} {u0 u1 : Value} (h : DiskAt M b0 dk D u0 u1) {j : Nat} (hj : dkD dk u0 u1 j) : b0 ≤ j ∧ ∃ b, M[j]? = some (some b) ∧ b.kind.mine = true := by
 rcases hj with rfl | hj | hj
 ·exact ⟨h.lo, _, h.cells, rfl⟩
 ·exact h.r0.at_ hj
 ·exact h.r1.at_ hj
theorem DiskAt.keep {M M' : AM} {b0 dk : Nat} {D : Dk} {u0 u1 : Value} (h : DiskAt M b0 dk D u0 u1) (hk : ∀ j b, M[j]? = some (some b) → dkD dk u0 u1 j → b.kind.mine = true → M'[j]? = some (some b)) : DiskAt M' b0 dk D u0 u1 :=
 ⟨h.lo, hk _ _ h.cells (.inl rfl) rfl, h.r0.keep fun j b hb hn hm => hk j b hb (.inr (.inl hn)) hm, h.r1.keep fun j b hb hn hm => hk j b hb (.inr (.inr hn)) hm, h.n0, h.n1, h.dis, h.ok⟩
theorem DiskAt.msub {M M' : AM} {b0 dk : Nat} {D : Dk} {u0 u1 : Value} (h : DiskAt M b0 dk D u0 u1) (hs : MSub M M') : DiskAt M' b0 dk D u0 u1 := h.keep fun j b hb _ hm => hs.get j b hm hb
theorem DiskAt.old {M : AM} {b0 dk : Nat} {D : Dk} {u0 u1 : Value} (h : DiskAt M b0 dk D u0 u1) (T : AM) : DiskAt (M ++ T) b0 dk D u0 u1 := h.msub (Sub.app M T).m
theorem DiskAt.vw {S : Nat → Prop} {M : AM} {b0 dk : Nat} {D : Dk} {u0 u1 : Value} (h : DiskAt M b0 dk D u0 u1) (hS : ∀ j, dkD dk u0 u1 j → S j) : DiskAt (Abs.vw S M) b0 dk D u0 u1 := h.keep fun j b hb hj _ => vw_some.2 ⟨hS j hj, hb⟩
theorem DiskAt.in_ {S : Nat → Prop} {M : AM} {b0 dk : Nat} {D : Dk} {u0 u1 : Value} (h : DiskAt (Abs.vw S M) b0 dk D u0 u1) : ∀ j, dkD dk u0 u1 j → S j := fun j hj => by
 obtain ⟨_, b, hb, _⟩ := h.at_ hj
 exact (vw_some.1 hb).1
theorem DiskAt.rd {M : AM} {b0 dk : Nat} {D : Dk} {u0 u1 : Value} (h : DiskAt M b0 dk D u0 u1) (T : AM) (j : Nat) (v : Value) (hv : (dkc D u0 u1)[j]? = some v) : Rd (M ++ T) dk j v := Rd.old T ⟨_, h.cells, hv⟩
def DkQ (D' : Dk) (b0 dk : Nat) (u0 u1 : Value) (m : AM) (M : AM) : Prop := ∃ u0' u1', DiskAt M b0 dk D' u0' u1' ∧ Keep (dkD dk u0 u1) m M ∧ ∀ j, j < m.length → ¬ dkD dk u0 u1 j → ¬ dkD dk u0' u1' j
theorem DkQ.refl {b0 dk : Nat} {D : Dk} {u0 u1 : Value} {m : AM} (h : DiskAt m b0 dk D u0 u1) (T : AM) : DkQ D b0 dk u0 u1 m (m ++ T) := ⟨u0, u1, h.old T, Keep.app _ _ _, fun _ _ hn => hn⟩
def spF (D : Dk) : Bool × Dk := if D.off = true then (false, D) else if D.fused = true then (if D.left = 0 then (false, { D with off := true }) else (true, { D with left := D.left - 1 })) else (true, D)
theorem sz4d : szB Try.prog 4 = some 1 := by kernel_rfl
theorem sz3d : szB Try.prog 3 = some 1 := by kernel_rfl
theorem sz22d : szB Try.prog 22 = some 1 := by kernel_rfl
set_option maxRecDepth 100000 in
theorem spend_ok {m : AM} {dk : Nat} {D : Dk} {u0 u1 : Value} (hc : m[dk]? = some (some { cells := dkc D u0 u1 })) (hl : D.left ≤ 9223372036854775807) :
  ACall Try.prog 116 #[.pointer (some ⟨dk, 0, none⟩)] m (fun r M => r = .bool (spF D).1 ∧ ∃ T, M = m.set dk (some { cells := dkc (spF D).2 u0 u1 }) ++ T) := by
 have hdl := (List.getElem?_eq_some_iff.1 hc).1
 have r0 := fun T => Rd.old T (show Rd m dk 0 (.bool D.off) from ⟨_, hc, rfl⟩)
 have r1 := fun T => Rd.old T (show Rd m dk (0 + 1) (.bool D.fused) from ⟨_, hc, rfl⟩)
 have r2 := fun T => Rd.old T (show Rd m dk (0 + 2) (.int .i64 (D.left : Nat)) from ⟨_, hc, rfl⟩)
 refine ACall.start Try.func116 rfl rfl ?_
 unfold spF
 cases ho : D.off with
 | true =>
  rw [ho] at r0
  rw [if_pos rfl]
  (repeat (first|(with_reducible refine AWo.cons ?_)|((with_reducible refine Step.id ?_);first|((with_reducible apply Step.move);exact rfl;exact rfl)|((with_reducible apply Step.assign);exact rfl;exact rfl)|((with_reducible apply Step.load);exact rfl;((decide +kernel));exact rfl;((exact r0 _)))|((with_reducible apply Step.field0);exact rfl;((decide +kernel));exact rfl)|((with_reducible apply Step.nilp);exact rfl;exact rfl))|(with_reducible first|apply AWo.nil|apply AW.seq|apply Then.n|apply AW.regL)|((with_reducible apply AW.condT);exact rfl;((rfl)))))
  (refine AW.ret ?_; (repeat (first | refine Then.r ?_ | refine InBlk.r ?_)))
  exact ⟨_, rfl, rfl, [], by rw [set_selfT hc]⟩
 | false =>
  rw [ho] at r0
  rw [if_neg (by simp)]
  cases hf : D.fused with
  | false =>
   rw [hf] at r1
   rw [if_neg (by simp)]
   (repeat (first|(with_reducible refine AWo.cons ?_)|((with_reducible refine Step.id ?_);first|((with_reducible apply Step.move);exact rfl;exact rfl)|((with_reducible apply Step.assign);exact rfl;exact rfl)|((with_reducible apply Step.load);exact rfl;((decide +kernel));exact rfl;((first|exact r0 _|exact r1 _)))|((with_reducible apply Step.field0);exact rfl;((decide +kernel));exact rfl)|((with_reducible apply Step.field (k := 1));exact rfl;((decide +kernel));exact rfl)|((with_reducible apply Step.nilp);exact rfl;exact rfl))|(with_reducible first|apply AWo.nil|apply AW.seq|apply Then.n|apply AW.regL|apply AW.skip)|((with_reducible apply AW.condF);exact rfl;((rfl)))))
   (refine AW.ret ?_; (repeat (first | refine Then.r ?_ | refine InBlk.r ?_)))
   exact ⟨_, rfl, rfl, [], by rw [set_selfT hc]⟩
  | true =>
   rw [hf] at r1
   rw [if_pos rfl]
   by_cases h0 : D.left = 0
   ·rw [if_pos h0]
    (repeat (first|(with_reducible refine AWo.cons ?_)|((with_reducible refine Step.id ?_);first|((with_reducible apply Step.move);exact rfl;exact rfl)|((with_reducible apply Step.assign);exact rfl;exact rfl)|((with_reducible apply Step.load);exact rfl;((decide +kernel));exact rfl;((first|exact r0 _|exact r1 _|exact r2 _)))|((with_reducible apply Step.field0);exact rfl;((decide +kernel));exact rfl)|((with_reducible apply Step.field (k := 1));exact rfl;((decide +kernel));exact rfl)|((with_reducible apply Step.field (k := 2));exact rfl;((decide +kernel));exact rfl)|((with_reducible apply Step.eql);exact rfl;exact rfl;exact rfl)|((with_reducible apply Step.nilp);exact rfl;exact rfl))|(with_reducible first|apply AWo.nil|apply AW.seq|apply Then.n|apply AW.regL|apply AW.skip)|((with_reducible apply AW.condT);exact rfl;((first|rfl|(simp only [zq1, zq2, zq3, zq4, zq5, zq6];first|assumption|omega))))|((with_reducible apply AW.condF);exact rfl;((rfl)))))
    ((with_reducible apply Step.storeAt);exact rfl;exact rfl;exact (get_old _ hc);exact sz4d;exact rfl;((show 0 < 8;omega));exact rfl;exact rfl)
    (repeat (first|(with_reducible refine AWo.cons ?_)|((with_reducible refine Step.id ?_);((with_reducible apply Step.assign);exact rfl;exact rfl))|(with_reducible first|apply AWo.nil|apply AW.seq|apply Then.n|apply AW.regL)))
    (refine AW.ret ?_; (repeat (first | refine Then.r ?_ | refine InBlk.r ?_)))
    refine ⟨_, rfl, rfl, [], ?_⟩
    rw [List.append_nil, List.append_nil]
    simp only [dkc, ho, hf]
    rfl
   ·rw [if_neg h0]
    have hd : ((D.left : Int) - 1) = ((D.left - 1 : Nat) : Int) := by omega
    (repeat (first|(with_reducible refine AWo.cons ?_)|((with_reducible refine Step.id ?_);first|((with_reducible apply Step.move);exact rfl;exact rfl)|((with_reducible apply Step.assign);exact rfl;exact rfl)|((with_reducible apply Step.load);exact rfl;((decide +kernel));exact rfl;((first|exact r0 _|exact r1 _|exact r2 _)))|((with_reducible apply Step.field0);exact rfl;((decide +kernel));exact rfl)|((with_reducible apply Step.field (k := 1));exact rfl;((decide +kernel));exact rfl)|((with_reducible apply Step.field (k := 2));exact rfl;((decide +kernel));exact rfl)|((with_reducible apply Step.sub);exact rfl;exact rfl;((omega));exact rfl)|((with_reducible apply Step.eql);exact rfl;exact rfl;exact rfl)|((with_reducible apply Step.nilp);exact rfl;exact rfl))|(with_reducible first|apply AWo.nil|apply AW.seq|apply Then.n|apply AW.regL|apply AW.skip)|((with_reducible apply AW.condT);exact rfl;((rfl)))|((with_reducible apply AW.condF);exact rfl;((first|rfl|(simp only [zq1, zq2, zq3, zq4, zq5, zq6];first|assumption|omega))))))
    ((with_reducible apply Step.storeAt);exact rfl;exact rfl;exact (get_old _ hc);exact sz3d;exact rfl;((show 0 + 2 < 8;omega));exact rfl;exact rfl)
    (repeat (first|(with_reducible refine AWo.cons ?_)|((with_reducible refine Step.id ?_);((with_reducible apply Step.assign);exact rfl;exact rfl))|(with_reducible first|apply AWo.nil|apply AW.seq|apply Then.n|apply AW.regL)))
    (refine AW.ret ?_; (repeat (first | refine Then.r ?_ | refine InBlk.r ?_)))
    refine ⟨_, rfl, rfl, [], ?_⟩
    rw [List.append_nil, List.append_nil, hd]
    simp only [dkc, ho, hf]
    rfl
theorem ar118 : arB Try.prog 118 = some (2, 2) := by kernel_rfl
theorem un36 : Try.prog.underlying 36 = some (.pointer 120) := by kernel_rfl
set_option maxRecDepth 100000 in
theorem at_bad {m : AM} {b0 dk : Nat} {D : Dk} {u0 u1 : Value} {n : Int} (h : DiskAt m b0 dk D u0 u1) (hn : ¬ (0 ≤ n ∧ n ≤ 1)) : ACall Try.prog 115 #[.pointer (some ⟨dk, 0, none⟩), .int .i64 n] m (Ret (.tuple #[.pointer none, .int .i64 2]) m) := by
 have hlo := h.ok.lo
 have hdl := h.lt
 have r7 := fun T => h.rd T (0 + 7) _ rfl
 refine ACall.start Try.func115 rfl rfl ?_
 by_cases c : n < 0
 ·(repeat (first|(with_reducible refine AWo.cons ?_)|((with_reducible refine Step.id ?_);first|((with_reducible apply Step.gdT);exact rfl;exact rfl;((rfl)))|((with_reducible apply Step.gdF);exact rfl;exact rfl;(((simp only [zq1, zq2, zq3, zq4, zq5, zq6];first|assumption|omega))))|((with_reducible apply Step.move);exact rfl;exact rfl)|((with_reducible apply Step.assign);exact rfl;exact rfl)|((with_reducible apply Step.load);exact rfl;((decide +kernel));exact rfl;((exact r7 _)))|((with_reducible apply Step.field (k := 7));exact rfl;((decide +kernel));exact rfl)|((with_reducible apply Step.ptrNot);exact rfl;exact rfl;exact un36;exact rfl)|((with_reducible apply Step.lss);exact rfl;exact rfl;exact rfl)|((with_reducible apply Step.eql);exact rfl;exact rfl;exact rfl)|((with_reducible apply Step.nilp);exact rfl;exact rfl)|((with_reducible apply Step.pickT);exact rfl;exact rfl;exact rfl;exact rfl;(((simp only [zq1, zq2, zq3, zq4, zq5, zq6];first|assumption|omega))))|((with_reducible apply Step.pickF);exact rfl;exact rfl;exact rfl;exact rfl;((rfl))))|(with_reducible first|apply AWo.nil|apply AW.seq|apply Then.n|apply AW.regL|apply AW.block)|((with_reducible apply AW.condT);exact rfl;((rfl)))|((with_reducible apply AW.condF);exact rfl;(((simp only [zq1, zq2, zq3, zq4, zq5, zq6];first|assumption|omega))))))
  (refine AW.retD (l := [(4, _), (5, _)]) (by repeat (first | exact trivial | (refine And.intro ⟨rfl, by (first | exact .int _ _ | exact Ren.of_g0 rfl)⟩ ?_))) ?_; (repeat (first | refine Then.r ?_ | refine InBlk.r ?_)))
  exact ⟨_, rfl, rfl, rfl⟩
 ·(repeat (first|(with_reducible refine AWo.cons ?_)|((with_reducible refine Step.id ?_);first|((with_reducible apply Step.gdT);exact rfl;exact rfl;((first|rfl|(simp only [zq1, zq2, zq3, zq4, zq5, zq6];first|assumption|omega))))|((with_reducible apply Step.move);exact rfl;exact rfl)|((with_reducible apply Step.assign);exact rfl;exact rfl)|((with_reducible apply Step.load);exact rfl;((decide +kernel));exact rfl;((exact r7 _)))|((with_reducible apply Step.field (k := 7));exact rfl;((decide +kernel));exact rfl)|((with_reducible apply Step.ptrNot);exact rfl;exact rfl;exact un36;exact rfl)|((with_reducible apply Step.lss);exact rfl;exact rfl;exact rfl)|((with_reducible apply Step.gtr);exact rfl;exact rfl;exact rfl)|((with_reducible apply Step.eql);exact rfl;exact rfl;exact rfl)|((with_reducible apply Step.nilp);exact rfl;exact rfl)|((with_reducible apply Step.pickF);exact rfl;exact rfl;exact rfl;exact rfl;((first|rfl|(simp only [zq1, zq2, zq3, zq4, zq5, zq6];first|assumption|omega)))))|(with_reducible first|apply AWo.nil|apply AW.seq|apply Then.n|apply AW.regL|apply AW.block)|((with_reducible apply AW.condT);exact rfl;(((simp only [zq1, zq2, zq3, zq4, zq5, zq6];first|assumption|omega))))|((with_reducible apply AW.condF);exact rfl;(((simp only [zq1, zq2, zq3, zq4, zq5, zq6];first|assumption|omega))))))
  (refine AW.retD (l := [(4, _), (5, _)]) (by repeat (first | exact trivial | (refine And.intro ⟨rfl, by (first | exact .int _ _ | exact Ren.of_g0 rfl)⟩ ?_))) ?_; (repeat (first | refine Then.r ?_ | refine InBlk.r ?_)))
  exact ⟨_, rfl, rfl, rfl⟩
set_option maxRecDepth 100000 in
theorem at_ok {m : AM} {b0 dk : Nat} {D : Dk} {u0 u1 : Value} {n : Nat} (h : DiskAt m b0 dk D u0 u1) (hn : n < 2) : ACall Try.prog 115 #[.pointer (some ⟨dk, 0, none⟩), .int .i64 (n : Nat)] m (Ret (.tuple #[.pointer (some ⟨dk, 3 + n * 2, none⟩), .int .i64 0]) m) := by
 have hlo := h.ok.lo
 have hdl := h.lt
 have r7 := fun T => h.rd T (0 + 7) _ rfl
 refine ACall.start Try.func115 rfl rfl ?_
 (repeat (first|(with_reducible refine AWo.cons ?_)|((with_reducible refine Step.id ?_);first|((with_reducible apply Step.gdT);exact rfl;exact rfl;((rfl)))|((with_reducible apply Step.move);exact rfl;exact rfl)|((with_reducible apply Step.assign);exact rfl;exact rfl)|((with_reducible apply Step.load);exact rfl;((decide +kernel));exact rfl;((exact r7 _)))|((with_reducible apply Step.field (k := 3));exact rfl;((decide +kernel));exact rfl)|((with_reducible apply Step.field (k := 7));exact rfl;((decide +kernel));exact rfl)|((with_reducible apply Step.ixA (s := 2) (n := 2));exact rfl;exact rfl;exact ar118;exact rfl;((omega)))|((with_reducible apply Step.ptrNot);exact rfl;exact rfl;exact un36;exact rfl)|((with_reducible apply Step.lss);exact rfl;exact rfl;exact rfl)|((with_reducible apply Step.gtr);exact rfl;exact rfl;exact rfl)|((with_reducible apply Step.eql);exact rfl;exact rfl;exact rfl)|((with_reducible apply Step.nilp);exact rfl;exact rfl)|((with_reducible apply Step.pickF);exact rfl;exact rfl;exact rfl;exact rfl;((rfl))))|(with_reducible first|apply AWo.nil|apply AW.seq|apply Then.n|apply AW.regL|apply AW.block|apply InBlk.n|apply AW.skip)|((with_reducible apply AW.condF);exact rfl;(((simp only [zq1, zq2, zq3, zq4, zq5, zq6];first|assumption|omega))))))
 (refine AW.retD (l := [(4, _), (5, _)]) (by repeat (first | exact trivial | (refine And.intro ⟨rfl, by (first | exact .int _ _ | exact .ptr _ _ (by first | (simp; done) | omega | (simp; omega)))⟩ ?_))) ?_; (repeat (first | refine Then.r ?_ | refine InBlk.r ?_)))
 exact ⟨_, rfl, by simp, rfl⟩
def pk (n : Nat) (a b : Value) : Value := if n = 0 then a else b
theorem spF_same (D : Dk) : (spF D).2.a0 = D.a0 ∧ (spF D).2.a1 = D.a1 ∧ (spF D).2.most = D.most := by
 unfold spF
 split
 ·exact ⟨rfl, rfl, rfl⟩
 ·split
  ·split <;> exact ⟨rfl, rfl, rfl⟩
  ·exact ⟨rfl, rfl, rfl⟩
theorem spF_ar (D : Dk) (n : Nat) : (spF D).2.ar n = D.ar n := by
 unfold Dk.ar
 rw [(spF_same D).1, (spF_same D).2.1]
theorem OkD.sp {D : Dk} (h : OkD D) : OkD (spF D).2 := by
 obtain ⟨e0, e1, e2⟩ := spF_same D
 refine ⟨by rw [e2]; exact h.lo, by rw [e2]; exact h.hi, by rw [e0, e2]; exact h.l0, by rw [e1, e2]; exact h.l1, by rw [e0]; exact h.s0, by rw [e1]; exact h.s1, ?_⟩
 have := h.lf
 unfold spF
 split
 ·exact this
 ·split
  ·split
   ·exact this
   ·show D.left - 1 ≤ _; omega
  ·exact this
theorem OkD.arl {D : Dk} (h : OkD D) (n : Nat) : (D.ar n).b.length ≤ D.most ∧ (D.ar n).s ≤ (D.ar n).b.length := by
 unfold Dk.ar
 split
 ·exact ⟨h.l0, h.s0⟩
 ·exact ⟨h.l1, h.s1⟩
theorem OkD.put {D : Dk} (h : OkD D) (n : Nat) {x : Ar} (h1 : x.b.length ≤ D.most) (h2 : x.s ≤ x.b.length) : OkD (D.put n x) := by
 unfold Dk.put
 split
 ·exact ⟨h.lo, h.hi, h1, h.l1, h2, h.s1, h.lf⟩
 ·exact ⟨h.lo, h.hi, h.l0, h1, h.s0, h2, h.lf⟩
theorem dkc_u {D : Dk} {u0 u1 : Value} {n : Nat} (hn : n < 2) : (dkc D u0 u1)[3 + n * 2]? = some (pk n u0 u1) := by
 rcases (show n = 0 ∨ n = 1 by omega) with rfl | rfl <;> rfl
theorem dkc_s {D : Dk} {u0 u1 : Value} {n : Nat} (hn : n < 2) : (dkc D u0 u1)[3 + n * 2 + 1]? = some (.int .i64 ((D.ar n).s : Nat)) := by
 rcases (show n = 0 ∨ n = 1 by omega) with rfl | rfl <;> rfl
theorem dkc_setu {D : Dk} {u0 u1 u : Value} {n : Nat} (hn : n < 2) : (dkc D u0 u1).set (3 + n * 2) u = dkc D (pk n u u0) (pk n u1 u) := by
 rcases (show n = 0 ∨ n = 1 by omega) with rfl | rfl <;> rfl
theorem dkc_sets {D : Dk} {u0 u1 : Value} {n s : Nat} {b : List UInt8} (hn : n < 2) : (dkc D u0 u1).set (3 + n * 2 + 1) (.int .i64 (s : Nat)) = dkc (D.put n ⟨b, s⟩) u0 u1 := by
 rcases (show n = 0 ∨ n = 1 by omega) with rfl | rfl <;> rfl
theorem dkc_b {D : Dk} {u0 u1 : Value} {n : Nat} {b : List UInt8} : dkc (D.put n ⟨b, (D.ar n).s⟩) u0 u1 = dkc D u0 u1 := by
 unfold Dk.put Dk.ar
 split <;> rfl
theorem DiskAt.rn {M : AM} {b0 dk : Nat} {D : Dk} {u0 u1 : Value} (h : DiskAt M b0 dk D u0 u1) (n : Nat) : RowC M b0 (pk n u0 u1) (D.ar n).b := by
 unfold pk Dk.ar
 split
 ·exact h.r0
 ·exact h.r1
theorem dkD_n {dk : Nat} {u0 u1 : Value} {n j : Nat} (h : ¬ NotB (pk n u0 u1) j) : dkD dk u0 u1 j := by
 unfold pk at h
 split at h
 ·exact .inr (.inl h)
 ·exact .inr (.inr h)
theorem DkQ.trans {D1 D2 : Dk} {b0 dk : Nat} {u0 u1 : Value} {m m1 m2 : AM} (h : DkQ D1 b0 dk u0 u1 m m1) (h2 : ∀ u0' u1', DiskAt m1 b0 dk D1 u0' u1' → DkQ D2 b0 dk u0' u1' m1 m2) : DkQ D2 b0 dk u0 u1 m m2 := by
 obtain ⟨v0, v1, a1, a2, a3⟩ := h
 obtain ⟨w0, w1, c1, c2, c3⟩ := h2 v0 v1 a1
 have hl := a2.len
 exact ⟨w0, w1, c1, ⟨by have := c2.len; omega, fun j hj hn => by rw [c2.get j (by omega) (a3 j hj hn), a2.get j hj hn]⟩, fun j hj hn => c3 j (by omega) (a3 j hj hn)⟩
theorem DkQ.app {D1 : Dk} {b0 dk : Nat} {u0 u1 : Value} {m m1 : AM} (h : DkQ D1 b0 dk u0 u1 m m1) (T : AM) : DkQ D1 b0 dk u0 u1 m (m1 ++ T) := h.trans fun _ _ hD => DkQ.refl hD T
theorem DkQ.after {D2 : Dk} {b0 dk : Nat} {u0 u1 : Value} {m X M : AM} (hk : Keep (dkD dk u0 u1) m X) (h : DkQ D2 b0 dk u0 u1 X M) : DkQ D2 b0 dk u0 u1 m M := by
 obtain ⟨w0, w1, c1, c2, c3⟩ := h
 have hl := hk.len
 exact ⟨w0, w1, c1, ⟨by have := c2.len; omega, fun j hj hn => by rw [c2.get j (by omega) hn, hk.get j hj hn]⟩, fun j hj hn => c3 j (by omega) hn⟩
theorem DiskAt.cellAt {m : AM} {b0 dk : Nat} {D D1 : Dk} {u0 u1 : Value} (h : DiskAt m b0 dk D u0 u1) (e0 : D1.a0.b = D.a0.b) (e1 : D1.a1.b = D.a1.b) (hok : OkD D1) : DiskAt (m.set dk (some { cells := dkc D1 u0 u1 })) b0 dk D1 u0 u1 ∧ Keep (· = dk) m (m.set dk (some { cells := dkc D1 u0 u1 })) := by
 have hk : ∀ j, j ≠ dk → (m.set dk (some { cells := dkc D1 u0 u1 }))[j]? = m[j]? := fun j hj => List.getElem?_set_ne (Ne.symm hj)
 refine ⟨⟨h.lo, List.getElem?_set_self h.lt, ?_, ?_, h.n0, h.n1, h.dis, hok⟩, ⟨by simp, fun j _ hn => hk j fun e => hn e⟩⟩
 ·rw [e0]; exact h.r0.keep fun j b hb hn _ => by rw [hk j (fun e => hn (e ▸ h.n0))]; exact hb
 ·rw [e1]; exact h.r1.keep fun j b hb hn _ => by rw [hk j (fun e => hn (e ▸ h.n1))]; exact hb
theorem DiskAt.cell {m : AM} {b0 dk : Nat} {D D1 : Dk} {u0 u1 : Value} (h : DiskAt m b0 dk D u0 u1) (e0 : D1.a0.b = D.a0.b) (e1 : D1.a1.b = D.a1.b) (hok : OkD D1) : DkQ D1 b0 dk u0 u1 m (m.set dk (some { cells := dkc D1 u0 u1 })) := by
 obtain ⟨h1, h2⟩ := h.cellAt e0 e1 hok
 exact ⟨u0, u1, h1, h2.mono fun _ e => .inl e, fun _ _ hn => hn⟩
theorem DiskAt.spentAt {m : AM} {b0 dk : Nat} {D : Dk} {u0 u1 : Value} (h : DiskAt m b0 dk D u0 u1) (T : AM) : DiskAt (m.set dk (some { cells := dkc (spF D).2 u0 u1 }) ++ T) b0 dk (spF D).2 u0 u1 ∧ Keep (· = dk) m (m.set dk (some { cells := dkc (spF D).2 u0 u1 }) ++ T) := by
 obtain ⟨e0, e1, _⟩ := spF_same D
 obtain ⟨h1, h2⟩ := h.cellAt (by rw [e0]) (by rw [e1]) h.ok.sp
 exact ⟨h1.old T, ⟨by rw [List.length_append]; have := h2.len; omega, fun j hj hn => by rw [List.getElem?_append_left (by have := h2.len; omega)]; exact h2.get j hj hn⟩⟩
theorem DiskAt.spent {m : AM} {b0 dk : Nat} {D : Dk} {u0 u1 : Value} (h : DiskAt m b0 dk D u0 u1) : DkQ (spF D).2 b0 dk u0 u1 m (m.set dk (some { cells := dkc (spF D).2 u0 u1 })) := by
 obtain ⟨e0, e1, _⟩ := spF_same D
 exact h.cell (by rw [e0]) (by rw [e1]) h.ok.sp
theorem DiskAt.rowed {m X : AM} {b0 dk n : Nat} {D : Dk} {u0 u1 u : Value} {x : Ar} (h : DiskAt m b0 dk D u0 u1) (hn : n < 2) (hl : m.length ≤ X.length) (hk : ∀ j, j < m.length → NotB (pk n u0 u1) j → X[j]? = m[j]?) (hr : RowC X b0 u x.b) (hu : ∀ j, j < m.length → NotB (pk n u0 u1) j → NotB u j) (hok : OkD (D.put n x)) :
  DkQ (D.put n x) b0 dk u0 u1 m (X.set dk (some { cells := dkc (D.put n x) (pk n u u0) (pk n u1 u) })) := by
 have hdl := h.lt
 have hnd : NotB (pk n u0 u1) dk := by unfold pk; split; exact h.n0; exact h.n1
 have hud := hu dk hdl hnd
 have hX : ∀ j, j ≠ dk → (X.set dk (some { cells := dkc (D.put n x) (pk n u u0) (pk n u1 u) }))[j]? = X[j]? := fun j hj => List.getElem?_set_ne (Ne.symm hj)
 have hr' : RowC (X.set dk (some { cells := dkc (D.put n x) (pk n u u0) (pk n u1 u) })) b0 u x.b := hr.keep fun j b hb hnj _ => by rw [hX j (fun e => hnj (e ▸ hud))]; exact hb
 have other : ∀ {v : Value} {l : List UInt8}, RowC m b0 v l → NotB v dk → (∀ j, ¬ NotB v j → NotB (pk n u0 u1) j) → RowC (X.set dk (some { cells := dkc (D.put n x) (pk n u u0) (pk n u1 u) })) b0 v l := fun {v l} hv hvd hd => hv.keep fun j b hb hnj _ => by
  rw [hX j (fun e => hnj (e ▸ hvd)), hk j (List.getElem?_eq_some_iff.1 hb).1 (hd j hnj)]
  exact hb
 have hkp : Keep (dkD dk u0 u1) m (X.set dk (some { cells := dkc (D.put n x) (pk n u u0) (pk n u1 u) })) := ⟨by rw [List.length_set]; exact hl, fun j hj hnj => by
  rw [hX j (fun e => hnj (.inl e)), hk j hj (Classical.byContradiction fun e => hnj (dkD_n e))]⟩
 have hcl : (X.set dk (some { cells := dkc (D.put n x) (pk n u u0) (pk n u1 u) }))[dk]? = some (some { cells := dkc (D.put n x) (pk n u u0) (pk n u1 u) }) := List.getElem?_set_self (by omega)
 have huN : ∀ j, j < m.length → ¬ dkD dk u0 u1 j → NotB u j := fun j hj hnj => hu j hj (Classical.byContradiction fun e => hnj (dkD_n e))
 refine ⟨pk n u u0, pk n u1 u, ⟨h.lo, hcl, ?_, ?_, ?_, ?_, ?_, hok⟩, hkp, ?_⟩
 all_goals rcases (show n = 0 ∨ n = 1 by omega) with rfl | rfl
 ·exact hr'
 ·exact other h.r0 h.n0 fun j hj => (h.dis j).resolve_left hj
 ·exact other h.r1 h.n1 fun j hj => (h.dis j).resolve_right hj
 ·exact hr'
 ·exact hud
 ·exact h.n0
 ·exact h.n1
 ·exact hud
 ·intro j
  by_cases hj : NotB u1 j
  ·exact .inr hj
  ·exact .inl (hu j (h.r1.lt hj) ((h.dis j).resolve_right hj))
 ·intro j
  by_cases hj : NotB u0 j
  ·exact .inl hj
  ·exact .inr (hu j (h.r0.lt hj) ((h.dis j).resolve_left hj))
 ·rintro j hj hnj (e | e | e)
  ·exact hnj (.inl e)
  ·exact e (huN j hj hnj)
  ·exact hnj (.inr (.inr e))
 ·rintro j hj hnj (e | e | e)
  ·exact hnj (.inl e)
  ·exact hnj (.inr (.inl e))
  ·exact e (huN j hj hnj)
def inA (n : Int) : Prop := 0 ≤ n ∧ n ≤ 1
instance (n : Int) : Decidable (inA n) := inferInstanceAs (Decidable (_ ∧ _))
def apF (D : Dk) (n : Int) (p : List UInt8) : Int × Dk :=
 if inA n then
  if D.most - (D.ar n.toNat).b.length < p.length then (13, D)
  else if (spF D).1 = true then (0, (spF D).2.put n.toNat ⟨(D.ar n.toNat).b ++ p, (D.ar n.toNat).s⟩) else (14, (spF D).2)
 else (2, D)
def syF (D : Dk) (n : Int) : Int × Dk :=
 if inA n then
  if (spF D).1 = true then (0, (spF D).2.put n.toNat ⟨(D.ar n.toNat).b, (D.ar n.toNat).b.length⟩) else (14, (spF D).2)
 else (2, D)
def clF (D : Dk) (n : Int) : Int × Dk :=
 if inA n then
  if (spF D).1 = true then (0, (spF D).2.put n.toNat ⟨[], 0⟩) else (14, (spF D).2)
 else (2, D)
def rdF (D : Dk) (n : Int) : List UInt8 × Int := if inA n then if D.off = true then ([], 14) else ((D.ar n.toNat).b, 0) else ([], 2)
set_option maxHeartbeats 8000000 in
set_option maxRecDepth 100000 in
theorem DAppend_ok {m : AM} {b0 dk : Nat} {D : Dk} {u0 u1 w : Value} {p : List UInt8} (n : Int) (h : DiskAt m b0 dk D u0 u1) (hb0 : b0 ≤ m.length) (hp : ∀ M, Keep (· = dk) m M → Byts M w p) (hlen : p.length ≤ 1000000000) :
  ACall Try.prog 48 #[.pointer (some ⟨dk, 0, none⟩), .int .i64 n, w] m (fun r M => r = .int .i64 (apF D n p).1 ∧ DkQ (apF D n p).2 b0 dk u0 u1 m M) := by
 have hlo := h.ok.lo
 have hhi := h.ok.hi
 have hdl := h.lt
 obtain ⟨aw, ow', hws, _⟩ := hp m (Keep.refl _ _)
 refine ACall.start Try.func48 rfl rfl ?_
 unfold apF
 by_cases c : inA n
 ·rw [if_pos c]
  obtain ⟨k, rfl⟩ := Int.eq_ofNat_of_zero_le c.1
  have hk : k < 2 := by have := c.2; omega
  rw [show ((k : Nat) : Int).toNat = k from rfl]
  have hat := fun T => at_ok (h.old T) hk
  have r7 := fun T => h.rd T 7 _ rfl
  have r7' := fun T => h.rd T (0 + 7) _ rfl
  have ru := fun T => h.rd T _ _ (dkc_u hk)
  have hrn := h.rn k
  obtain ⟨au, hus, hau, _⟩ := hrn.sl (by omega)
  obtain ⟨q1, q2⟩ := h.ok.arl k
  by_cases c1 : D.most - (D.ar k).b.length < p.length
  ·rw [if_pos c1]
   (repeat (first|(with_reducible refine AWo.cons ?_)|((with_reducible refine Step.id ?_);first|((with_reducible apply Step.move);exact rfl;exact rfl)|((with_reducible apply Step.assign);exact rfl;exact rfl)|((with_reducible apply Step.load);exact rfl;((decide +kernel));exact rfl;((first|exact r7 _|exact ru _)))|((with_reducible apply Step.field0);exact rfl;((decide +kernel));exact rfl)|((with_reducible apply Step.field (k := 7));exact rfl;((decide +kernel));exact rfl)|((with_reducible apply Step.sub);exact rfl;exact rfl;((omega));exact rfl)|((with_reducible apply Step.gtr);exact rfl;exact rfl;exact rfl)|((with_reducible apply Step.neq);exact rfl;exact rfl;exact rfl)|((with_reducible apply Step.len);exact rfl;((assumption));((decide +kernel));exact rfl)|((with_reducible apply Step.nilp);exact rfl;exact rfl)|((with_reducible apply Step.extract);exact rfl;exact rfl;exact rfl)|((with_reducible apply Step.callR fit);exact rfl;exact Try.func115;exact rfl;exact rfl;exact (hat _)))|(with_reducible first|apply AWo.nil|apply AW.seq|apply Then.n|apply AW.regL|apply AW.block)|((with_reducible apply AW.drawL fit);((decide +kernel)))|((with_reducible apply AW.condT);exact rfl;(((simp only [zq1, zq2, zq3, zq4, zq5, zq6];first|assumption|omega))))|((with_reducible apply AW.condF);exact rfl;((rfl)))))
   (refine AW.ret ?_; (repeat (first | refine Then.r ?_ | refine InBlk.r ?_)))
   exact ⟨_, rfl, rfl, DkQ.refl h _⟩
  ·rw [if_neg c1]
   (repeat (first|(with_reducible refine AWo.cons ?_)|((with_reducible refine Step.id ?_);first|((with_reducible apply Step.move);exact rfl;exact rfl)|((with_reducible apply Step.assign);exact rfl;exact rfl)|((with_reducible apply Step.load);exact rfl;((decide +kernel));exact rfl;((first|exact r7 _|exact ru _)))|((with_reducible apply Step.field0);exact rfl;((decide +kernel));exact rfl)|((with_reducible apply Step.field (k := 7));exact rfl;((decide +kernel));exact rfl)|((with_reducible apply Step.sub);exact rfl;exact rfl;((omega));exact rfl)|((with_reducible apply Step.gtr);exact rfl;exact rfl;exact rfl)|((with_reducible apply Step.neq);exact rfl;exact rfl;exact rfl)|((with_reducible apply Step.len);exact rfl;((assumption));((decide +kernel));exact rfl)|((with_reducible apply Step.nilp);exact rfl;exact rfl)|((with_reducible apply Step.extract);exact rfl;exact rfl;exact rfl)|((with_reducible apply Step.callR fit);exact rfl;exact Try.func115;exact rfl;exact rfl;exact (hat _)))|(with_reducible first|apply AWo.nil|apply AW.seq|apply Then.n|apply AW.regL|apply AW.block)|((with_reducible apply AW.drawL fit);((decide +kernel)))|((with_reducible apply AW.condF);exact rfl;((first|rfl|(simp only [zq1, zq2, zq3, zq4, zq5, zq6];first|assumption|omega))))))
   ((with_reducible apply Step.callF fit);exact rfl;exact Try.func116;exact rfl;exact rfl;((rw [List.append_nil];exact spend_ok h.cells h.ok.lf)))
   rintro r2 M2 ⟨rfl, T, rfl⟩
   have hq := h.spent
   cases hs : (spF D).1 with
   | false =>
    rw [if_neg (by simp)]
    (repeat (first|(with_reducible refine AWo.cons ?_)|((with_reducible refine Step.id ?_);first|((with_reducible apply Step.assign);exact rfl;exact rfl)|((with_reducible apply Step.not);exact rfl;exact rfl))|(with_reducible first|apply AWo.nil|apply AW.seq|apply Then.n|apply AW.regL)|((with_reducible apply AW.condT);exact rfl;((rfl)))))
    (refine AW.ret ?_; (repeat (first | refine Then.r ?_ | refine InBlk.r ?_)))
    exact ⟨_, rfl, rfl, hq.app T⟩
   | true =>
    rw [if_pos rfl]
    obtain ⟨hX, hkX⟩ := h.spentAt T
    obtain ⟨X, hXe⟩ : ∃ X, X = m.set dk (some { cells := dkc (spF D).2 u0 u1 }) ++ T := ⟨_, rfl⟩
    rw [← hXe] at hX hkX ⊢
    have ha := spF_ar D k
    obtain ⟨_, _, hmo⟩ := spF_same D
    obtain ⟨a1, o1, hs1, hd1⟩ := (hp X hkX).row
    have hrX := hX.rn k
    have ru2 := fun T => hX.rd T _ _ (dkc_u hk)
    have hnd : NotB (pk k u0 u1) dk := by unfold pk; split; exact hX.n0; exact hX.n1
    have hXl := hX.lt
    rw [ha] at hrX
    rw [← List.append_nil X]
    (repeat (first|(with_reducible refine AWo.cons ?_)|((with_reducible refine Step.id ?_);first|((with_reducible apply Step.move);exact rfl;exact rfl)|((with_reducible apply Step.assign);exact rfl;exact rfl)|((with_reducible apply Step.load);exact rfl;((decide +kernel));exact rfl;((exact ru2 _)))|((with_reducible apply Step.field0);exact rfl;((decide +kernel));exact rfl)|((with_reducible apply Step.not);exact rfl;exact rfl)|((with_reducible apply Step.nilp);exact rfl;exact rfl))|(with_reducible first|apply AWo.nil|apply AW.seq|apply Then.n|apply AW.regL|apply InBlk.n|apply AW.skip)|((with_reducible apply AW.condF);exact rfl;((rfl)))))
    ((with_reducible apply Step.appC (b0 := b0) (l := (D.ar k).b) (pp := p));exact rfl;exact rfl;exact (hrX.old []);exact hs1;exact (fun h => (hd1 h).old []);exact el22;exact un22;((omega));exact rfl;((rw [List.append_nil];have := hkX.len;omega)))
    intro u' M' hr' hml' hk' hu'
    rw [List.append_nil] at hml' hk' hu'
    have hMd : M'[dk]? = some (some { cells := dkc (spF D).2 u0 u1 }) := by rw [hk' dk hXl hnd]; exact hX.cells
    have hus' := hr'.slv.one
    rw [← List.append_nil M']
    (repeat (first|(with_reducible refine AWo.cons ?_)|((with_reducible refine Step.id ?_);first|((with_reducible apply Step.field0);exact rfl;((decide +kernel));exact rfl)|((with_reducible apply Step.nilp);exact rfl;exact rfl))))
    ((with_reducible apply Step.storeAt);exact rfl;exact rfl;exact (get_old [] hMd);exact sz22d;exact rfl;((show 3 + k * 2 < 8;omega));exact hus'.2;exact hus'.1)
    (repeat (first|(with_reducible refine AWo.cons ?_)|((with_reducible refine Step.id ?_);((with_reducible apply Step.assign);exact rfl;exact rfl))|(with_reducible first|apply AWo.nil|apply AW.seq|apply Then.n|apply AW.regL)))
    (refine AW.ret ?_; (repeat (first | refine Then.r ?_ | refine InBlk.r ?_)))
    have hrow := hX.rowed hk (x := ⟨(D.ar k).b ++ p, (D.ar k).s⟩) (u := u') hml' hk' hr' hu' (hX.ok.put k (by rw [hmo, List.length_append]; omega) (by show (D.ar k).s ≤ ((D.ar k).b ++ p).length; rw [List.length_append]; omega))
    rw [← ha, dkc_b, ← dkc_setu hk] at hrow
    simp only [ha] at hrow
    refine ⟨_, rfl, rfl, DkQ.after (hkX.mono fun _ e => .inl e) ?_⟩
    simp only [List.append_nil]
    exact hrow
 ·rw [if_neg c]
  have hat := fun T => at_bad (h.old T) c
  (repeat (first|(with_reducible refine AWo.cons ?_)|((with_reducible refine Step.id ?_);first|((with_reducible apply Step.move);exact rfl;exact rfl)|((with_reducible apply Step.assign);exact rfl;exact rfl)|((with_reducible apply Step.neq);exact rfl;exact rfl;exact rfl)|((with_reducible apply Step.extract);exact rfl;exact rfl;exact rfl)|((with_reducible apply Step.callR fit);exact rfl;exact Try.func115;exact rfl;exact rfl;exact (hat _)))|(with_reducible first|apply AWo.nil|apply AW.seq|apply Then.n|apply AW.regL|apply AW.block)|((with_reducible apply AW.condT);exact rfl;((rfl)))))
  (refine AW.ret ?_; (repeat (first | refine Then.r ?_ | refine InBlk.r ?_)))
  exact ⟨_, rfl, rfl, DkQ.refl h _⟩
structure Pr where
 ck : Nat
 xk : Nat
 o : Option Ck
def prs (ks : List Pr) : List (Nat × Nat) := ks.map fun x => (x.ck, x.xk)
def obs (ks : List Pr) : List Ob := ks.flatMap fun x => [⟨false, x.ck, x.o⟩, ⟨true, x.xk, x.o⟩]
structure Desk (m : AM) (ow : Nat → Nat) (M : AM) (bk xb : Nat) (B : Bk) (av : Value) (ks : List Pr) (N : Nat) : Prop where
 side : Side m ow M (bobj m.length bk B xb B.P av (prs ks) (obs ks))
 good : Good B
 nP : B.P.length ≤ N
 nk : ks.length ≤ N
 cl : ∀ x ∈ ks, ∀ K, x.o = some K → KOK B.P K ∧ K.seen.length ≤ N
section
variable {m : AM} {ow : Nat → Nat} {M : AM} {bk xb : Nat} {B : Bk} {av : Value} {ks : List Pr} {N : Nat}
theorem Desk.app (h : Desk m ow M bk xb B av ks N) (T : AM) : Desk m (asg ow M.length 1) (M ++ T) bk xb B av ks N := ⟨h.side.app T 1, h.good, h.nP, h.nk, h.cl⟩
theorem Desk.same (h : Desk m ow M bk xb B av ks N) : Desk m ow M bk xb B av ks (N + 1) :=
 ⟨h.side, h.good, by have := h.nP; omega, by have := h.nk; omega, fun x hx K hK => ⟨(h.cl x hx K hK).1, by have := (h.cl x hx K hK).2; omega⟩⟩
end
section
variable {P : Program} {nt d : Nat} {ops : Array Oper} {T : TypeId} {p : String} {af : Array Edge} {t : Fm} {m : AM} {K : Fm → AM → Prop}
theorem Step.ptrNotN {x y : Operand} {X Y : TypeId} {a o : Nat} {e : TypeId} (hx : evo t x = some (.pointer (some ⟨a, o, none⟩))) (hy : evo t y = some (.pointer none)) (hX : P.underlying X = some (.pointer e)) (hlt : Nat.blt d nt = true) (hK : K (put t d (.bool true)) m) : Step P nt ops ⟨some d, .binOp .neq X x y Y, T, p, af, none⟩ t m K :=
 .q rfl rfl hlt (by simp [Op.operands, hx, hy]) (by simp [aquiet, evD_of hx, evD_of hy, aint, anil, hX, bEq]) hK
end
theorem Lft.rd {X M2 : AM} {ow : Nat → Nat} {ow2 : Nat → Nat} (hl : X.length ≤ M2.length) (hk : ∀ j, j < X.length → ow j = 1 → M2[j]? = X[j]? ∧ ow2 j = 1) {a : Nat} (ha : ow a = 1) {b : Blk} (hb : X[a]? = some (some b)) : M2[a]? = some (some b) ∧ ow2 a = 1 := by
 have := hk a (List.getElem?_eq_some_iff.1 hb).1 ha
 rw [this.1]; exact ⟨hb, this.2⟩
end Go.Proofs.Ytabdnepfcohncaa.Abs
