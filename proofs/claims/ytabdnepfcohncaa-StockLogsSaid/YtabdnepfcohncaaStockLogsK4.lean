/- Proved here: what the proof of StockLogs rests on, part 4 of 6. Conditions: those that each theorem names. -/
import Derived.Test.YtabdnepfcohncaaStockLogsK3
namespace Go.Proofs.Ytabdnepfcohncaa.Abs
set_option linter.unusedSimpArgs false
set_option linter.unusedVariables false
open Go.RowKit
open Go.Proofs.Ytabdnepfcohncaa.Sim
open Go.Proofs
theorem put_b0 (D : Dk) (n s : Nat) : (D.put n ⟨(D.ar n).b, s⟩).a0.b = D.a0.b ∧ (D.put n ⟨(D.ar n).b, s⟩).a1.b = D.a1.b := by
 unfold Dk.put Dk.ar
 split <;> exact ⟨rfl, rfl⟩
set_option maxHeartbeats 8000000 in
set_option maxRecDepth 100000 in
theorem DSync_ok {m : AM} {b0 dk : Nat} {D : Dk} {u0 u1 : Value} (n : Int) (h : DiskAt m b0 dk D u0 u1) :
  ACall Try.prog 66 #[.pointer (some ⟨dk, 0, none⟩), .int .i64 n] m (fun r M => r = .int .i64 (syF D n).1 ∧ DkQ (syF D n).2 b0 dk u0 u1 m M) := by
 have hdl := h.lt
 refine ACall.start Try.func66 rfl rfl ?_
 unfold syF
 by_cases c : inA n
 ·rw [if_pos c]
  obtain ⟨k, rfl⟩ := Int.eq_ofNat_of_zero_le c.1
  have hk : k < 2 := by have := c.2; omega
  rw [show ((k : Nat) : Int).toNat = k from rfl]
  have hat := fun T => at_ok (h.old T) hk
  (repeat (first|(with_reducible refine AWo.cons ?_)|((with_reducible refine Step.id ?_);first|((with_reducible apply Step.move);exact rfl;exact rfl)|((with_reducible apply Step.assign);exact rfl;exact rfl)|((with_reducible apply Step.field0);exact rfl;((decide +kernel));exact rfl)|((with_reducible apply Step.neq);exact rfl;exact rfl;exact rfl)|((with_reducible apply Step.nilp);exact rfl;exact rfl)|((with_reducible apply Step.extract);exact rfl;exact rfl;exact rfl)|((with_reducible apply Step.callR fit);exact rfl;exact Try.func115;exact rfl;exact rfl;exact (hat _)))|(with_reducible first|apply AWo.nil|apply AW.seq|apply Then.n|apply AW.regL|apply AW.block)|((with_reducible apply AW.condF);exact rfl;((rfl)))))
  ((with_reducible apply Step.callF fit);exact rfl;exact Try.func116;exact rfl;exact rfl;((rw [List.append_nil];exact spend_ok h.cells h.ok.lf)))
  rintro r2 M2 ⟨rfl, T, rfl⟩
  obtain ⟨hX, hkX⟩ := h.spentAt T
  have ha := spF_ar D k
  cases hs : (spF D).1 with
  | false =>
   rw [if_neg (by simp)]
   (repeat (first|(with_reducible refine AWo.cons ?_)|((with_reducible refine Step.id ?_);first|((with_reducible apply Step.assign);exact rfl;exact rfl)|((with_reducible apply Step.not);exact rfl;exact rfl))|(with_reducible first|apply AWo.nil|apply AW.seq|apply Then.n|apply AW.regL)|((with_reducible apply AW.condT);exact rfl;((rfl)))))
   (refine AW.ret ?_; (repeat (first | refine Then.r ?_ | refine InBlk.r ?_)))
   exact ⟨_, rfl, rfl, DkQ.after (hkX.mono fun _ e => .inl e) (by have := DkQ.refl hX []; rwa [List.append_nil] at this)⟩
  | true =>
   rw [if_pos rfl]
   obtain ⟨X, hXe⟩ : ∃ X, X = m.set dk (some { cells := dkc (spF D).2 u0 u1 }) ++ T := ⟨_, rfl⟩
   rw [← hXe] at hX hkX ⊢
   have ru2 := fun T => hX.rd T _ _ (dkc_u hk)
   have hXl := hX.lt
   have hrX := hX.rn k
   obtain ⟨au, hus, hau, _⟩ := hrX.sl (by omega)
   rw [ha] at hus
   rw [← List.append_nil X]
   (repeat (first|(with_reducible refine AWo.cons ?_)|((with_reducible refine Step.id ?_);first|((with_reducible apply Step.move);exact rfl;exact rfl)|((with_reducible apply Step.assign);exact rfl;exact rfl)|((with_reducible apply Step.load);exact rfl;((decide +kernel));exact rfl;((exact ru2 _)))|((with_reducible apply Step.field0);exact rfl;((decide +kernel));exact rfl)|((with_reducible apply Step.field (k := 1));exact rfl;((decide +kernel));exact rfl)|((with_reducible apply Step.len);exact rfl;((assumption));((decide +kernel));exact rfl)|((with_reducible apply Step.not);exact rfl;exact rfl)|((with_reducible apply Step.nilp);exact rfl;exact rfl))|(with_reducible first|apply AWo.nil|apply AW.seq|apply Then.n|apply AW.regL|apply InBlk.n|apply AW.skip)|((with_reducible apply AW.condF);exact rfl;((rfl)))))
   ((with_reducible apply Step.storeAt);exact rfl;exact rfl;exact (get_old [] hX.cells);exact sz3d;exact rfl;((show 3 + k * 2 + 1 < 8;omega));exact rfl;exact rfl)
   (repeat (first|(with_reducible refine AWo.cons ?_)|((with_reducible refine Step.id ?_);((with_reducible apply Step.assign);exact rfl;exact rfl))|(with_reducible first|apply AWo.nil|apply AW.seq|apply Then.n|apply AW.regL)))
   (refine AW.ret ?_; (repeat (first | refine Then.r ?_ | refine InBlk.r ?_)))
   have hb := put_b0 (spF D).2 k (D.ar k).b.length
   rw [ha] at hb
   have hc := hX.cell (D1 := (spF D).2.put k ⟨(D.ar k).b, (D.ar k).b.length⟩) hb.1 hb.2 (hX.ok.put k (by rw [← ha]; exact (hX.ok.arl k).1) (Nat.le_refl _))
   rw [← dkc_sets hk] at hc
   refine ⟨_, rfl, rfl, DkQ.after (hkX.mono fun _ e => .inl e) ?_⟩
   simp only [List.append_nil]
   exact hc
 ·rw [if_neg c]
  have hat := fun T => at_bad (h.old T) c
  (repeat (first|(with_reducible refine AWo.cons ?_)|((with_reducible refine Step.id ?_);first|((with_reducible apply Step.move);exact rfl;exact rfl)|((with_reducible apply Step.assign);exact rfl;exact rfl)|((with_reducible apply Step.neq);exact rfl;exact rfl;exact rfl)|((with_reducible apply Step.extract);exact rfl;exact rfl;exact rfl)|((with_reducible apply Step.callR fit);exact rfl;exact Try.func115;exact rfl;exact rfl;exact (hat _)))|(with_reducible first|apply AWo.nil|apply AW.seq|apply Then.n|apply AW.regL|apply AW.block)|((with_reducible apply AW.condT);exact rfl;((rfl)))))
  (refine AW.ret ?_; (repeat (first | refine Then.r ?_ | refine InBlk.r ?_)))
  exact ⟨_, rfl, rfl, DkQ.refl h _⟩
theorem bl117 : abuild Try.prog 117 [] = some (.agg #[.slice none 0 0, .int .i64 0]) := by kernel_rfl
theorem sz117 : szB Try.prog 117 = some 2 := by kernel_rfl
theorem dkc_clear {D : Dk} {u0 u1 : Value} {n : Nat} (hn : n < 2) : splice (dkc D u0 u1) (3 + n * 2) [.slice none 0 0, .int .i64 0] = dkc (D.put n ⟨[], 0⟩) (pk n (.slice none 0 0) u0) (pk n u1 (.slice none 0 0)) := by
 rcases (show n = 0 ∨ n = 1 by omega) with rfl | rfl <;> rfl
set_option maxHeartbeats 8000000 in
set_option maxRecDepth 100000 in
theorem DClear_ok {m : AM} {b0 dk : Nat} {D : Dk} {u0 u1 : Value} (n : Int) (h : DiskAt m b0 dk D u0 u1) :
  ACall Try.prog 67 #[.pointer (some ⟨dk, 0, none⟩), .int .i64 n] m (fun r M => r = .int .i64 (clF D n).1 ∧ DkQ (clF D n).2 b0 dk u0 u1 m M) := by
 have hdl := h.lt
 refine ACall.start Try.func67 rfl rfl ?_
 unfold clF
 by_cases c : inA n
 ·rw [if_pos c]
  obtain ⟨k, rfl⟩ := Int.eq_ofNat_of_zero_le c.1
  have hk : k < 2 := by have := c.2; omega
  rw [show ((k : Nat) : Int).toNat = k from rfl]
  have hat := fun T => at_ok (h.old T) hk
  (repeat (first|(with_reducible refine AWo.cons ?_)|((with_reducible refine Step.id ?_);first|((with_reducible apply Step.move);exact rfl;exact rfl)|((with_reducible apply Step.assign);exact rfl;exact rfl)|((with_reducible apply Step.field0);exact rfl;((decide +kernel));exact rfl)|((with_reducible apply Step.neq);exact rfl;exact rfl;exact rfl)|((with_reducible apply Step.nilp);exact rfl;exact rfl)|((with_reducible apply Step.extract);exact rfl;exact rfl;exact rfl)|((with_reducible apply Step.callR fit);exact rfl;exact Try.func115;exact rfl;exact rfl;exact (hat _)))|(with_reducible first|apply AWo.nil|apply AW.seq|apply Then.n|apply AW.regL|apply AW.block)|((with_reducible apply AW.condF);exact rfl;((rfl)))))
  ((with_reducible apply Step.callF fit);exact rfl;exact Try.func116;exact rfl;exact rfl;((rw [List.append_nil];exact spend_ok h.cells h.ok.lf)))
  rintro r2 M2 ⟨rfl, T, rfl⟩
  obtain ⟨hX, hkX⟩ := h.spentAt T
  cases hs : (spF D).1 with
  | false =>
   rw [if_neg (by simp)]
   (repeat (first|(with_reducible refine AWo.cons ?_)|((with_reducible refine Step.id ?_);first|((with_reducible apply Step.assign);exact rfl;exact rfl)|((with_reducible apply Step.not);exact rfl;exact rfl))|(with_reducible first|apply AWo.nil|apply AW.seq|apply Then.n|apply AW.regL)|((with_reducible apply AW.condT);exact rfl;((rfl)))))
   (refine AW.ret ?_; (repeat (first | refine Then.r ?_ | refine InBlk.r ?_)))
   exact ⟨_, rfl, rfl, DkQ.after (hkX.mono fun _ e => .inl e) (by have := DkQ.refl hX []; rwa [List.append_nil] at this)⟩
  | true =>
   rw [if_pos rfl]
   obtain ⟨X, hXe⟩ : ∃ X, X = m.set dk (some { cells := dkc (spF D).2 u0 u1 }) ++ T := ⟨_, rfl⟩
   rw [← hXe] at hX hkX ⊢
   have hXl := hX.lt
   rw [← List.append_nil X]
   (repeat (first|(with_reducible refine AWo.cons ?_)|((with_reducible refine Step.id ?_);first|((with_reducible apply Step.move);exact rfl;exact rfl)|((with_reducible apply Step.assign);exact rfl;exact rfl)|((with_reducible apply Step.not);exact rfl;exact rfl)|((with_reducible apply Step.nilp);exact rfl;exact rfl)|((with_reducible apply Step.build);exact rfl;exact bl117;exact rfl))|(with_reducible first|apply AWo.nil|apply AW.seq|apply Then.n|apply AW.regL|apply InBlk.n|apply AW.skip)|((with_reducible apply AW.condF);exact rfl;((rfl)))))
   ((with_reducible apply Step.storeL (n := 2) (v := [.slice none 0 0, .int .i64 0]));exact rfl;exact rfl;exact (get_old [] hX.cells);exact rfl;exact sz117;exact rfl;exact rfl;((show 3 + k * 2 + 2 ≤ 8;omega)))
   (repeat (first|(with_reducible refine AWo.cons ?_)|((with_reducible refine Step.id ?_);((with_reducible apply Step.assign);exact rfl;exact rfl))|(with_reducible first|apply AWo.nil|apply AW.seq|apply Then.n|apply AW.regL)))
   (refine AW.ret ?_; (repeat (first | refine Then.r ?_ | refine InBlk.r ?_)))
   have hrow := hX.rowed hk (X := X) (x := ⟨[], 0⟩) (u := .slice none 0 0) (Nat.le_refl _) (fun _ _ _ => rfl) .nil (fun _ _ _ => .nil) (hX.ok.put k (Nat.zero_le _) (Nat.le_refl _))
   rw [← dkc_clear hk] at hrow
   refine ⟨_, rfl, rfl, DkQ.after (hkX.mono fun _ e => .inl e) ?_⟩
   simp only [List.append_nil]
   exact hrow
 ·rw [if_neg c]
  have hat := fun T => at_bad (h.old T) c
  (repeat (first|(with_reducible refine AWo.cons ?_)|((with_reducible refine Step.id ?_);first|((with_reducible apply Step.move);exact rfl;exact rfl)|((with_reducible apply Step.assign);exact rfl;exact rfl)|((with_reducible apply Step.neq);exact rfl;exact rfl;exact rfl)|((with_reducible apply Step.extract);exact rfl;exact rfl;exact rfl)|((with_reducible apply Step.callR fit);exact rfl;exact Try.func115;exact rfl;exact rfl;exact (hat _)))|(with_reducible first|apply AWo.nil|apply AW.seq|apply Then.n|apply AW.regL|apply AW.block)|((with_reducible apply AW.condT);exact rfl;((rfl)))))
  (refine AW.ret ?_; (repeat (first | refine Then.r ?_ | refine InBlk.r ?_)))
  exact ⟨_, rfl, rfl, DkQ.refl h _⟩
set_option maxHeartbeats 8000000 in
set_option maxRecDepth 100000 in
theorem DRead_ok {m : AM} {b0 dk : Nat} {D : Dk} {u0 u1 : Value} (n : Int) (h : DiskAt m b0 dk D u0 u1) :
  ACall Try.prog 53 #[.pointer (some ⟨dk, 0, none⟩), .int .i64 n] m (More (fun M r => ∃ u, r = .tuple #[u, .int .i64 (rdF D n).2] ∧ Row M m.length 1 u (by8 (rdF D n).1) (rdF D n).1.length) m) := by
 have hdl := h.lt
 have hhi := h.ok.hi
 refine ACall.start Try.func53 rfl rfl ?_
 unfold rdF
 by_cases c : inA n
 ·rw [if_pos c]
  obtain ⟨k, rfl⟩ := Int.eq_ofNat_of_zero_le c.1
  have hk : k < 2 := by have := c.2; omega
  rw [show ((k : Nat) : Int).toNat = k from rfl]
  have hat := fun T => at_ok (h.old T) hk
  have r0 := fun T => h.rd T 0 _ rfl
  have ru := fun T => h.rd T _ _ (dkc_u hk)
  have hcl := clone_ok ((h.rn k).byts (by omega)) (by have := (h.ok.arl k).1; omega)
  cases ho : D.off with
  | true =>
   rw [ho] at r0
   rw [if_pos rfl]
   (repeat (first|(with_reducible refine AWo.cons ?_)|((with_reducible refine Step.id ?_);first|((with_reducible apply Step.move);exact rfl;exact rfl)|((with_reducible apply Step.assign);exact rfl;exact rfl)|((with_reducible apply Step.load);exact rfl;((decide +kernel));exact rfl;((exact r0 _)))|((with_reducible apply Step.field0);exact rfl;((decide +kernel));exact rfl)|((with_reducible apply Step.neq);exact rfl;exact rfl;exact rfl)|((with_reducible apply Step.nilp);exact rfl;exact rfl)|((with_reducible apply Step.extract);exact rfl;exact rfl;exact rfl)|((with_reducible apply Step.callR fit);exact rfl;exact Try.func115;exact rfl;exact rfl;exact (hat _)))|(with_reducible first|apply AWo.nil|apply AW.seq|apply Then.n|apply AW.regL|apply AW.block)|((with_reducible apply AW.condT);exact rfl;((rfl)))|((with_reducible apply AW.condF);exact rfl;((rfl)))))
   (refine AW.ret ?_; (repeat (first | refine Then.r ?_ | refine InBlk.r ?_)))
   exact ⟨_, rfl, [], rfl, _, rfl, Row.nil⟩
  | false =>
   rw [ho] at r0
   rw [if_neg (by simp)]
   (repeat (first|(with_reducible refine AWo.cons ?_)|((with_reducible refine Step.id ?_);first|((with_reducible apply Step.move);exact rfl;exact rfl)|((with_reducible apply Step.assign);exact rfl;exact rfl)|((with_reducible apply Step.load);exact rfl;((decide +kernel));exact rfl;((first|exact r0 _|exact ru _)))|((with_reducible apply Step.field0);exact rfl;((decide +kernel));exact rfl)|((with_reducible apply Step.neq);exact rfl;exact rfl;exact rfl)|((with_reducible apply Step.nilp);exact rfl;exact rfl)|((with_reducible apply Step.extract);exact rfl;exact rfl;exact rfl)|((with_reducible apply Step.callR fit);exact rfl;exact Try.func115;exact rfl;exact rfl;exact (hat _)))|(with_reducible first|apply AWo.nil|apply AW.seq|apply Then.n|apply AW.regL|apply AW.block|apply InBlk.n|apply AW.skip)|((with_reducible apply AW.condF);exact rfl;((rfl)))))
   ((with_reducible apply Step.callX fit);exact rfl;exact Try.func73;exact rfl;exact rfl;((rw [List.append_nil];exact hcl)))
   rintro u M1 ⟨N1, hN1⟩ hu
   rw [List.append_nil] at hN1
   rw [List.append_nil, ← List.append_nil M1]
   (repeat (first|(with_reducible refine AWo.cons ?_)|((with_reducible refine Step.id ?_);((with_reducible apply Step.assign);exact rfl;exact rfl))|(with_reducible first|apply AWo.nil|apply Then.n)))
   (refine AW.ret ?_; (repeat (first | refine Then.r ?_ | refine InBlk.r ?_)))
   exact ⟨_, rfl, N1, by rw [List.append_nil]; exact hN1, u, rfl, by rw [List.append_nil]; exact hu⟩
 ·rw [if_neg c]
  have hat := fun T => at_bad (h.old T) c
  (repeat (first|(with_reducible refine AWo.cons ?_)|((with_reducible refine Step.id ?_);first|((with_reducible apply Step.move);exact rfl;exact rfl)|((with_reducible apply Step.assign);exact rfl;exact rfl)|((with_reducible apply Step.neq);exact rfl;exact rfl;exact rfl)|((with_reducible apply Step.extract);exact rfl;exact rfl;exact rfl)|((with_reducible apply Step.callR fit);exact rfl;exact Try.func115;exact rfl;exact rfl;exact (hat _)))|(with_reducible first|apply AWo.nil|apply AW.seq|apply Then.n|apply AW.regL|apply AW.block)|((with_reducible apply AW.condT);exact rfl;((rfl)))))
  (refine AW.ret ?_; (repeat (first | refine Then.r ?_ | refine InBlk.r ?_)))
  exact ⟨_, rfl, [], rfl, _, rfl, Row.nil⟩
def fuF (D : Dk) (k : Int) : Dk := { D with fused := decide (0 ≤ k), left := k.toNat }
theorem fuF_ok {D : Dk} (h : OkD D) {k : Int} (hk : k ≤ 9223372036854775807) : OkD (fuF D k) := ⟨h.lo, h.hi, h.l0, h.l1, h.s0, h.s1, by show k.toNat ≤ _; omega⟩
set_option maxHeartbeats 8000000 in
set_option maxRecDepth 100000 in
theorem DFuse_ok {m : AM} {b0 dk : Nat} {D : Dk} {u0 u1 : Value} (k : Int) (hk : k ≤ 9223372036854775807) (h : DiskAt m b0 dk D u0 u1) :
  ACall Try.prog 58 #[.pointer (some ⟨dk, 0, none⟩), .int .i64 k] m (fun r M => r = .tuple #[] ∧ DkQ (fuF D k) b0 dk u0 u1 m M) := by
 have hdl := h.lt
 have hlo := h.ok.lo
 have r7 := fun T => h.rd T (0 + 7) _ rfl
 refine ACall.start Try.func58 rfl rfl ?_
 have hmx : max k 0 = ((k.toNat : Nat) : Int) := by omega
 (repeat (first|(with_reducible refine AWo.cons ?_)|((with_reducible refine Step.id ?_);first|((with_reducible apply Step.gdT);exact rfl;exact rfl;((rfl)))|((with_reducible apply Step.move);exact rfl;exact rfl)|((with_reducible apply Step.load);exact rfl;((decide +kernel));exact rfl;((exact r7 _)))|((with_reducible apply Step.field0);exact rfl;((decide +kernel));exact rfl)|((with_reducible apply Step.field (k := 1));exact rfl;((decide +kernel));exact rfl)|((with_reducible apply Step.field (k := 7));exact rfl;((decide +kernel));exact rfl)|((with_reducible apply Step.ptrNotN);exact rfl;exact rfl;exact un36;exact rfl)|((with_reducible apply Step.gtr);exact rfl;exact rfl;exact rfl)|((with_reducible apply Step.geq);exact rfl;exact rfl;exact rfl)|((with_reducible apply Step.max);exact rfl;exact rfl;exact rfl)|((with_reducible apply Step.nilp);exact rfl;exact rfl)|((with_reducible apply Step.pickT);exact rfl;exact rfl;exact rfl;exact rfl;((rfl))))|(with_reducible first|apply AWo.nil|apply AW.seq|apply Then.n|apply AW.regL)|((with_reducible apply AW.condT);exact rfl;(((simp only [zq1, zq2, zq3, zq4, zq5, zq6];first|assumption|omega))))))
 ((with_reducible apply Step.storeAt);exact rfl;exact rfl;exact (get_old _ h.cells);exact sz4d;exact rfl;((show 0 + 1 < 8;omega));exact rfl;exact rfl)
 rw [List.append_nil]
 have hc2 : (m.set dk (some { cells := (dkc D u0 u1).set (0 + 1) (.bool (decide (0 ≤ k))) }))[dk]? = some (some { cells := (dkc D u0 u1).set (0 + 1) (.bool (decide (0 ≤ k))) }) := List.getElem?_set_self hdl
 rw [← List.append_nil (m.set dk _)]
 rw [hmx]
 (repeat (first|(with_reducible refine AWo.cons ?_)|((with_reducible refine Step.id ?_);first|((with_reducible apply Step.field0);exact rfl;((decide +kernel));exact rfl)|((with_reducible apply Step.field (k := 2));exact rfl;((decide +kernel));exact rfl)|((with_reducible apply Step.nilp);exact rfl;exact rfl))))
 ((with_reducible apply Step.storeAt);exact rfl;exact rfl;exact (get_old _ hc2);exact sz3d;exact rfl;((show 0 + 2 < 8;omega));exact rfl;exact rfl)
 (repeat ((with_reducible apply AWo.nil)))
 refine ⟨_, rfl, rfl, ?_⟩
 have hq := h.cell (D1 := fuF D k) rfl rfl (fuF_ok h.ok hk)
 simp only [List.append_nil, List.set_set]
 exact hq
def crA (x : Ar) (keep : Int) : Ar := ⟨x.b.take (x.s + (max 0 (min keep ((x.b.length : Int) - (x.s : Int)))).toNat), x.s + (max 0 (min keep ((x.b.length : Int) - (x.s : Int)))).toNat⟩
theorem crA_le {x : Ar} {keep : Int} (h : x.s ≤ x.b.length) : (crA x keep).s ≤ x.b.length ∧ (crA x keep).b.length = (crA x keep).s ∧ x.s ≤ (crA x keep).s := by
 unfold crA
 refine ⟨by show _ + _ ≤ _; omega, ?_, by show _ ≤ _ + _; omega⟩
 show (x.b.take (x.s + (max 0 (min keep ((x.b.length : Int) - (x.s : Int)))).toNat)).length = x.s + (max 0 (min keep ((x.b.length : Int) - (x.s : Int)))).toNat
 rw [List.length_take]
 omega
def crS (D : Dk) (k0 k1 : Int) : Nat → Dk
 | 0 => D
 | 1 => D.put 0 (crA D.a0 k0)
 | _ => (D.put 0 (crA D.a0 k0)).put 1 (crA D.a1 k1)
def crF (D : Dk) (k0 k1 : Int) : Dk := ⟨false, false, 0, crA D.a0 k0, crA D.a1 k1, D.most⟩
theorem dkc_zero {D : Dk} {u0 u1 : Value} (k0 k1 : Int) : splice (dkc (crS D k0 k1 2) u0 u1) 0 [.bool false, .bool false, .int .i64 0] = dkc (crF D k0 k1) u0 u1 := rfl
theorem crS_succ (D : Dk) (k0 k1 : Int) {n : Nat} (hn : n < 2) : crS D k0 k1 (n + 1) = (crS D k0 k1 n).put n (crA ((crS D k0 k1 n).ar n) (if n = 0 then k0 else k1)) := by
 rcases (show n = 0 ∨ n = 1 by omega) with rfl | rfl <;> rfl
theorem bl115 : abuild Try.prog 115 [] = some (.agg #[.bool false, .bool false, .int .i64 0]) := by kernel_rfl
theorem sz115 : szB Try.prog 115 = some 3 := by kernel_rfl
theorem dkc_any {D : Dk} {n s : Nat} {a b : List UInt8} {u0 u1 : Value} : dkc (D.put n ⟨a, s⟩) u0 u1 = dkc (D.put n ⟨b, s⟩) u0 u1 := by
 unfold Dk.put
 split <;> rfl
theorem DkQ.next {D2 : Dk} {b0 dk : Nat} {u0 u1 v0 v1 : Value} {m X M : AM} (hk : Keep (dkD dk u0 u1) m X) (hf : ∀ j, j < m.length → ¬ dkD dk u0 u1 j → ¬ dkD dk v0 v1 j) (h : DkQ D2 b0 dk v0 v1 X M) : DkQ D2 b0 dk u0 u1 m M := by
 obtain ⟨w0, w1, c1, c2, c3⟩ := h
 have hl := hk.len
 exact ⟨w0, w1, c1, ⟨by have := c2.len; omega, fun j hj hn => by rw [c2.get j (by omega) (hf j hj hn), hk.get j hj hn]⟩, fun j hj hn => c3 j (by omega) (hf j hj hn)⟩
set_option maxHeartbeats 8000000 in
set_option maxRecDepth 100000 in
theorem DCrash_ok {m : AM} {b0 dk : Nat} {D : Dk} {u0 u1 : Value} (k0 k1 : Int) (h : DiskAt m b0 dk D u0 u1) :
  ACall Try.prog 52 #[.pointer (some ⟨dk, 0, none⟩), .int .i64 k0, .int .i64 k1] m (fun r M => r = .tuple #[] ∧ DkQ (crF D k0 k1) b0 dk u0 u1 m M) := by
 have hdl := h.lt
 have hlo := h.ok.lo
 have r7 := fun T => h.rd T (0 + 7) _ rfl
 refine ACall.start Try.func52 rfl rfl ?_
 (repeat (first|(with_reducible refine AWo.cons ?_)|((with_reducible refine Step.id ?_);first|((with_reducible apply Step.gdT);exact rfl;exact rfl;((rfl)))|((with_reducible apply Step.move);exact rfl;exact rfl)|((with_reducible apply Step.load);exact rfl;((decide +kernel));exact rfl;((exact r7 _)))|((with_reducible apply Step.field (k := 7));exact rfl;((decide +kernel));exact rfl)|((with_reducible apply Step.ptrNot);exact rfl;exact rfl;exact un36;exact rfl)|((with_reducible apply Step.eql);exact rfl;exact rfl;exact rfl)|((with_reducible apply Step.nilp);exact rfl;exact rfl)|((with_reducible apply Step.pickF);exact rfl;exact rfl;exact rfl;exact rfl;((rfl)))|((with_reducible apply Step.build);exact rfl;exact bl145;exact rfl))|(with_reducible first|apply AWo.nil|apply AW.seq|apply Then.n|apply AW.regL|apply AW.block|apply AW.skip)|((with_reducible apply AW.condF);exact rfl;(((simp only [zq1, zq2, zq3, zq4, zq5, zq6];first|assumption|omega))))))
 refine AW.midX 0 (fun t' M => DkQ (crS D k0 k1 2) b0 dk u0 u1 m M ∧ All (fun i v => t' i = some v) [(0, .pointer (some ⟨dk, 0, none⟩))]) ?_ ?_
 ·refine AW.loopW (fun q t M => ∃ n : Nat, q = 2 - n ∧ n ≤ 2 ∧ DkQ (crS D k0 k1 n) b0 dk u0 u1 m M ∧
   t = fr [(0, .pointer (some ⟨dk, 0, none⟩)), (20, .agg #[.int .i64 k0, .int .i64 k1]), (21, .int .i64 (n : Nat))]) ⟨_, _, (by repeat (first | exact trivial | (refine And.intro rfl ?_))), 0, rfl, Nat.zero_le _, DkQ.refl h [], rfl⟩ ?_
  rintro q t M ⟨n, rfl, hn, hQ, rfl⟩
  refine AW.rebase ?_
  rcases Nat.lt_or_ge n 2 with hlt | hge
  ·have hS := crS_succ D k0 k1 hlt
   have hv : #[Value.int .i64 k0, .int .i64 k1][n]? = some (.int .i64 (if n = 0 then k0 else k1)) := by
    rcases (show n = 0 ∨ n = 1 by omega) with rfl | rfl <;> rfl
   generalize (if n = 0 then k0 else k1) = kk at *
   generalize crS D k0 k1 n = E at *
   obtain ⟨v0, v1, hD, hkp, hfr⟩ := hQ
   have hDl := hD.lt
   have hhi := hD.ok.hi
   obtain ⟨q1, q2⟩ := hD.ok.arl n
   have hrn := hD.rn n
   obtain ⟨au, hus, hau, _⟩ := hrn.sl (by omega)
   have ru := fun T => hD.rd T _ _ (dkc_u hlt)
   have rs := fun T => hD.rd T _ _ (dkc_s hlt)
   obtain ⟨s', hs'⟩ : ∃ s', s' = (E.ar n).s + (max 0 (min kk (((E.ar n).b.length : Int) - ((E.ar n).s : Int)))).toNat := ⟨_, rfl⟩
   have hsv : (((E.ar n).s : Nat) : Int) + max 0 (min kk (((E.ar n).b.length : Int) - ((E.ar n).s : Int))) = ((s' : Nat) : Int) := by omega
   have hsl : s' ≤ (E.ar n).b.length := by omega
   have hcr : crA (E.ar n) kk = ⟨(E.ar n).b.take s', s'⟩ := by rw [hs']; rfl
   (repeat (first|(with_reducible refine AWo.cons ?_)|((with_reducible refine Step.id ?_);first|((with_reducible apply Step.move);exact rfl;exact rfl)|((with_reducible apply Step.assign);exact rfl;exact rfl)|((with_reducible apply Step.load);exact rfl;((decide +kernel));exact rfl;((first|exact ru _|exact rs _)))|((with_reducible apply Step.field0);exact rfl;((decide +kernel));exact rfl)|((with_reducible apply Step.field (k := 1));exact rfl;((decide +kernel));exact rfl)|((with_reducible apply Step.field (k := 3));exact rfl;((decide +kernel));exact rfl)|((with_reducible apply Step.ixA (s := 2) (n := 2));exact rfl;exact rfl;exact ar118;exact rfl;((omega)))|((with_reducible apply Step.indexV);exact rfl;exact rfl;exact un145;exact sz3;((decide +kernel));((omega));((assumption));exact rfl)|((with_reducible apply Step.add);exact rfl;exact rfl;((omega));exact rfl)|((with_reducible apply Step.sub);exact rfl;exact rfl;((omega));exact rfl)|((with_reducible apply Step.lss);exact rfl;exact rfl;exact rfl)|((with_reducible apply Step.len);exact rfl;((assumption));((decide +kernel));exact rfl)|((with_reducible apply Step.max);exact rfl;exact rfl;exact rfl)|((with_reducible apply Step.min);exact rfl;exact rfl;exact rfl)|((with_reducible apply Step.nilp);exact rfl;exact rfl))|(with_reducible first|apply AWo.nil|apply AW.seq|apply Then.n|apply AW.regL|apply AW.block)|((with_reducible apply AW.drawL fit);((decide +kernel)))|(with_reducible apply AW.skip)|((with_reducible apply AW.condT);exact rfl;(((simp only [zq1, zq2, zq3, zq4, zq5, zq6];first|assumption|omega))))))
   rw [hsv]
   ((with_reducible apply Step.storeAt);exact rfl;exact rfl;exact (get_old [] hD.cells);exact sz3d;exact rfl;((show 3 + n * 2 + 1 < 8;omega));exact rfl;exact rfl)
   rw [List.append_nil, dkc_sets (b := (E.ar n).b) hlt]
   obtain ⟨hX, hkX⟩ := hD.cellAt (D1 := E.put n ⟨(E.ar n).b, s'⟩) (put_b0 E n s').1 (put_b0 E n s').2 (hD.ok.put n q1 hsl)
   have hck : ∀ X, X = M.set dk (some { cells := dkc (E.put n ⟨(E.ar n).b, s'⟩) v0 v1 }) → ∀ j, j ≠ dk → X[j]? = M[j]? := fun X e j hj => by rw [e, List.getElem?_set_ne (Ne.symm hj)]
   obtain ⟨X, hXe⟩ : ∃ X, X = M.set dk (some { cells := dkc (E.put n ⟨(E.ar n).b, s'⟩) v0 v1 }) := ⟨_, rfl⟩
   have hck := hck X hXe
   have hXset : ∀ c, X.set dk c = M.set dk c := fun c => by rw [hXe, List.set_set]
   rw [← hXe] at hX hkX ⊢
   have hnd : NotB (pk n v0 v1) dk := by unfold pk; split; exact hD.n0; exact hD.n1
   have hrX : RowC X b0 (pk n v0 v1) (E.ar n).b := hrn.keep fun j b hb hnj _ => by rw [hck j (fun e => hnj (e ▸ hnd))]; exact hb
   have ru2 := fun T => hX.rd T _ _ (dkc_u hlt)
   have rs2 : ∀ T, Rd (X ++ T) dk (3 + n * 2 + 1) (.int .i64 (s' : Nat)) := fun T => by
    have := hX.rd T _ _ (dkc_s hlt)
    rw [show (E.put n ⟨(E.ar n).b, s'⟩).ar n = ⟨(E.ar n).b, s'⟩ by unfold Dk.put Dk.ar; rcases (show n = 0 ∨ n = 1 by omega) with rfl | rfl <;> rfl] at this
    exact this
   rw [← List.append_nil X]
   (repeat (first|(with_reducible refine AWo.cons ?_)|((with_reducible refine Step.id ?_);first|((with_reducible apply Step.move);exact rfl;exact rfl)|((with_reducible apply Step.load);exact rfl;((decide +kernel));exact rfl;((first|exact ru2 _|exact rs2 _)))|((with_reducible apply Step.field0);exact rfl;((decide +kernel));exact rfl)|((with_reducible apply Step.field (k := 1));exact rfl;((decide +kernel));exact rfl)|((with_reducible apply Step.nilp);exact rfl;exact rfl))|(with_reducible first|apply AWo.nil|apply Then.n)|((with_reducible apply AW.drawL fit);((decide +kernel)))))
   ((with_reducible apply Step.cutC (h := s') (l := (E.ar n).b));exact rfl;exact rfl;exact (hrX.old []);exact rfl;exact hsl;exact un22;exact sz5;exact rfl)
   intro u' hr' hu'
   have hus' := hr'.slv.one
   (repeat (first|(with_reducible refine AWo.cons ?_)|((with_reducible refine Step.id ?_);first|((with_reducible apply Step.field0);exact rfl;((decide +kernel));exact rfl)|((with_reducible apply Step.nilp);exact rfl;exact rfl))))
   ((with_reducible apply Step.storeAt);exact rfl;exact rfl;exact (get_old [] hX.cells);exact sz22d;exact rfl;((show 3 + n * 2 < 8;omega));exact hus'.2;exact hus'.1)
   rw [List.append_nil, hXset, dkc_setu hlt, dkc_any (b := (E.ar n).b.take s')]
   rw [List.append_nil] at hr'
   have hud := hu' dk hnd
   have hrow := hD.rowed hlt (X := M) (x := ⟨(E.ar n).b.take s', s'⟩) (u := u') (Nat.le_refl _) (fun _ _ _ => rfl) (hr'.keep fun j b hb hnj _ => by rw [← hck j (fun e => hnj (e ▸ hud))]; exact hb) (fun j _ hj => hu' j hj) (hD.ok.put n (by rw [List.length_take]; omega) (by show s' ≤ ((E.ar n).b.take s').length; rw [List.length_take]; omega))
   have hfin := DkQ.next hkp hfr hrow
   (repeat (first|(with_reducible refine AWo.cons ?_)|((with_reducible refine Step.id ?_);first|((with_reducible apply Step.move);exact rfl;exact rfl)|((with_reducible apply Step.add);exact rfl;exact rfl;((omega));exact rfl))|(with_reducible first|apply AWo.nil|apply Then.n|apply AW.regL|apply InBlk.n)))
   exact ⟨_, [(0, .pointer (some ⟨dk, 0, none⟩)), (20, .agg #[.int .i64 k0, .int .i64 k1]), (21, .int .i64 (n + 1 : Nat))], by omega, (by repeat (first | exact trivial | (refine And.intro rfl ?_))), n + 1, rfl, by omega, by rw [hS, hcr]; exact hfin, rfl⟩
  ·obtain rfl : n = 2 := by omega
   (repeat (first|(with_reducible refine AWo.cons ?_)|((with_reducible refine Step.id ?_);((with_reducible apply Step.lss);exact rfl;exact rfl;exact rfl))|(with_reducible first|apply AWo.nil|apply AW.seq|apply Then.n|apply AW.regL|apply AW.exit|apply Then.e)|((with_reducible apply AW.condF);exact rfl;((rfl)))))
   exact ⟨rfl, by rw [List.append_nil]; exact hQ, (by repeat (first | exact trivial | (refine And.intro rfl ?_)))⟩
 ·rintro t' M ⟨hQ, hsl⟩
  refine InBlk.hit ?_
  refine Then.n ?_
  refine AW.weak (fr_all hsl) ?_
  clear hsl
  refine AW.rebase ?_
  have hQ2 := hQ
  obtain ⟨v0, v1, hD, hkp, hfr⟩ := hQ
  have hDl := hD.lt
  (repeat (first|(with_reducible refine AWo.cons ?_)|((with_reducible refine Step.id ?_);first|((with_reducible apply Step.move);exact rfl;exact rfl)|((with_reducible apply Step.field0);exact rfl;((decide +kernel));exact rfl)|((with_reducible apply Step.nilp);exact rfl;exact rfl)|((with_reducible apply Step.build);exact rfl;exact bl115;exact rfl))|(with_reducible apply AW.regL)))
  ((with_reducible apply Step.storeL (n := 3) (v := [.bool false, .bool false, .int .i64 0]));exact rfl;exact rfl;exact (get_old [] hD.cells);exact rfl;exact sz115;exact rfl;exact rfl;((show 0 + 3 ≤ 8;omega)))
  (repeat ((with_reducible apply AWo.nil)))
  refine ⟨_, rfl, rfl, ?_⟩
  rw [List.append_nil, dkc_zero]
  have hc := hD.cell (D1 := crF D k0 k1) rfl rfl ⟨hD.ok.lo, hD.ok.hi, hD.ok.l0, hD.ok.l1, hD.ok.s0, hD.ok.s1, Nat.zero_le _⟩
  obtain ⟨w0, w1, c1, c2, c3⟩ := hc
  exact ⟨w0, w1, c1, ⟨by have := hkp.len; have := c2.len; omega, fun j hj hn => by rw [c2.get j (by have := hkp.len; omega) (hfr j hj hn), hkp.get j hj hn]⟩, fun j hj hn => c3 j (by have := hkp.len; omega) (hfr j hj hn)⟩
def Dk.new (most : Nat) : Dk := ⟨false, false, 0, ⟨[], 0⟩, ⟨[], 0⟩, most⟩
theorem bl120 {n : Int} : abuild Try.prog 120 [(2, .int .i64 n)] = some (.agg #[.bool false, .bool false, .int .i64 0, .slice none 0 0, .int .i64 0, .slice none 0 0, .int .i64 0, .int .i64 n]) := by kernel_rfl
set_option maxRecDepth 100000 in
theorem NewDisk_bad {m : AM} {n : Int} (hn : ¬ (64 ≤ n ∧ n ≤ 1048576)) : ACall Try.prog 23 #[.int .i64 n] m (Ret (.tuple #[.pointer none, .int .i64 2]) m) := by
 refine ACall.start Try.func23 rfl rfl ?_
 by_cases c : n < 64
 ·(repeat (first|(with_reducible refine AWo.cons ?_)|((with_reducible refine Step.id ?_);first|((with_reducible apply Step.gdF);exact rfl;exact rfl;(((simp only [zq1, zq2, zq3, zq4, zq5, zq6];first|assumption|omega))))|((with_reducible apply Step.move);exact rfl;exact rfl)|((with_reducible apply Step.assign);exact rfl;exact rfl)|((with_reducible apply Step.lss);exact rfl;exact rfl;exact rfl)|((with_reducible apply Step.pickT);exact rfl;exact rfl;exact rfl;exact rfl;(((simp only [zq1, zq2, zq3, zq4, zq5, zq6];first|assumption|omega)))))|(with_reducible first|apply AWo.nil|apply AW.seq|apply Then.n|apply AW.regL)|((with_reducible apply AW.condT);exact rfl;((rfl)))))
  (refine AW.retD (l := [(2, _), (3, _)]) (by repeat (first | exact trivial | (refine And.intro ⟨rfl, by (first | exact .int _ _ | exact Ren.of_g0 rfl)⟩ ?_))) ?_; (repeat (first | refine Then.r ?_ | refine InBlk.r ?_)))
  exact ⟨_, rfl, rfl, rfl⟩
 ·(repeat (first|(with_reducible refine AWo.cons ?_)|((with_reducible refine Step.id ?_);first|((with_reducible apply Step.gdT);exact rfl;exact rfl;(((simp only [zq1, zq2, zq3, zq4, zq5, zq6];first|assumption|omega))))|((with_reducible apply Step.move);exact rfl;exact rfl)|((with_reducible apply Step.assign);exact rfl;exact rfl)|((with_reducible apply Step.lss);exact rfl;exact rfl;exact rfl)|((with_reducible apply Step.gtr);exact rfl;exact rfl;exact rfl)|((with_reducible apply Step.pickF);exact rfl;exact rfl;exact rfl;exact rfl;(((simp only [zq1, zq2, zq3, zq4, zq5, zq6];first|assumption|omega)))))|(with_reducible first|apply AWo.nil|apply AW.seq|apply Then.n|apply AW.regL)|((with_reducible apply AW.condT);exact rfl;(((simp only [zq1, zq2, zq3, zq4, zq5, zq6];first|assumption|omega))))))
  (refine AW.retD (l := [(2, _), (3, _)]) (by repeat (first | exact trivial | (refine And.intro ⟨rfl, by (first | exact .int _ _ | exact Ren.of_g0 rfl)⟩ ?_))) ?_; (repeat (first | refine Then.r ?_ | refine InBlk.r ?_)))
  exact ⟨_, rfl, rfl, rfl⟩
set_option maxRecDepth 100000 in
theorem NewDisk_ok {m : AM} {n : Nat} (hn : 64 ≤ n ∧ n ≤ 1048576) : ACall Try.prog 23 #[.int .i64 (n : Nat)] m (fun r M => r = .tuple #[.pointer (some ⟨m.length, 0, none⟩), .int .i64 0] ∧ M = m ++ [some { cells := dkc (Dk.new n) (.slice none 0 0) (.slice none 0 0) }]) := by
 have hw1 : (Value.agg #[.bool false, .bool false, .int .i64 0, .slice none 0 0, .int .i64 0, .slice none 0 0, .int .i64 0, .int .i64 (n : Nat)]).cells.all (·.oneCell') = true := by simp [Value.cells, Value.oneCell']
 refine ACall.start Try.func23 rfl rfl ?_
 (repeat (first|(with_reducible refine AWo.cons ?_)|((with_reducible refine Step.id ?_);first|((with_reducible apply Step.gdT);exact rfl;exact rfl;(((simp only [zq1, zq2, zq3, zq4, zq5, zq6];first|assumption|omega))))|((with_reducible apply Step.move);exact rfl;exact rfl)|((with_reducible apply Step.assign);exact rfl;exact rfl)|((with_reducible apply Step.lss);exact rfl;exact rfl;exact rfl)|((with_reducible apply Step.gtr);exact rfl;exact rfl;exact rfl)|((with_reducible apply Step.pickF);exact rfl;exact rfl;exact rfl;exact rfl;(((simp only [zq1, zq2, zq3, zq4, zq5, zq6];first|assumption|omega))))|((with_reducible apply Step.box 0);exact rfl;exact rfl;((first|assumption|exact hw1));exact rfl;((first|(simp only [zq7, zq8, zq9, zq0, iv_set, bv_set, iv_rep, bv_rep] <;> rfl)|rfl)))|((with_reducible apply Step.build);exact rfl;exact bl120;exact rfl))|(with_reducible first|apply AWo.nil|apply AW.seq|apply Then.n|apply AW.regL|apply AW.skip)|((with_reducible apply AW.condF);exact rfl;(((simp only [zq1, zq2, zq3, zq4, zq5, zq6];first|assumption|omega))))))
 (refine AW.ret ?_; (repeat (first | refine Then.r ?_ | refine InBlk.r ?_)))
 exact ⟨_, rfl, rfl, rfl⟩
theorem DiskAt.new (m : AM) {n : Nat} (hn : 64 ≤ n ∧ n ≤ 1048576) (T : AM) : DiskAt (m ++ [some { cells := dkc (Dk.new n) (.slice none 0 0) (.slice none 0 0) }] ++ T) m.length m.length (Dk.new n) (.slice none 0 0) (.slice none 0 0) :=
 ⟨Nat.le_refl _, by rw [List.append_assoc, List.getElem?_append_right (Nat.le_refl _), Nat.sub_self]; rfl, .nil, .nil, .nil, .nil, fun _ => .inl .nil, ⟨hn.1, hn.2, Nat.zero_le _, Nat.zero_le _, Nat.le_refl _, Nat.le_refl _, Nat.zero_le _⟩⟩
def lfD (D : Dk) : Int := if D.fused = true then (D.left : Nat) else -1
def rkd (D : Dk) (u0 u1 : Value) : List Value := [.int .i64 (D.most : Nat), u0, u1, .int .i64 (D.a0.s : Nat), .int .i64 (D.a1.s : Nat), .bool D.off, .int .i64 (lfD D)]
theorem rkd_u {D : Dk} {u0 u1 : Value} {n : Nat} (hn : n < 2) : (rkd D u0 u1)[1 + n]? = some (pk n u0 u1) := by
 rcases (show n = 0 ∨ n = 1 by omega) with rfl | rfl <;> rfl
theorem rkd_s {D : Dk} {u0 u1 : Value} {n : Nat} (hn : n < 2) : (rkd D u0 u1)[3 + n]? = some (.int .i64 ((D.ar n).s : Nat)) := by
 rcases (show n = 0 ∨ n = 1 by omega) with rfl | rfl <;> rfl
theorem rkd_setu {D : Dk} {u0 u1 u : Value} {n : Nat} (hn : n < 2) : (rkd D u0 u1).set (1 + n) u = rkd D (pk n u u0) (pk n u1 u) := by
 rcases (show n = 0 ∨ n = 1 by omega) with rfl | rfl <;> rfl
theorem rkd_sets {D : Dk} {u0 u1 : Value} {n s : Nat} {b : List UInt8} (hn : n < 2) : (rkd D u0 u1).set (3 + n) (.int .i64 (s : Nat)) = rkd (D.put n ⟨b, s⟩) u0 u1 := by
 rcases (show n = 0 ∨ n = 1 by omega) with rfl | rfl <;> rfl
theorem rkd_b {D : Dk} {u0 u1 : Value} {n : Nat} {b : List UInt8} : rkd (D.put n ⟨b, (D.ar n).s⟩) u0 u1 = rkd D u0 u1 := by
 unfold Dk.put Dk.ar
 split <;> rfl
theorem rkd_any {D : Dk} {n s : Nat} {a b : List UInt8} {u0 u1 : Value} : rkd (D.put n ⟨a, s⟩) u0 u1 = rkd (D.put n ⟨b, s⟩) u0 u1 := by
 unfold Dk.put
 split <;> rfl
structure RDiskAt (M : AM) (b0 dk : Nat) (D : Dk) (u0 u1 : Value) : Prop where
 lo : b0 ≤ dk
 cells : M[dk]? = some (some { cells := rkd D u0 u1 })
 r0 : RowC M b0 u0 D.a0.b
 r1 : RowC M b0 u1 D.a1.b
 n0 : NotB u0 dk
 n1 : NotB u1 dk
 dis : ∀ j, NotB u0 j ∨ NotB u1 j
 ok : OkD D
theorem RDiskAt.lt {M : AM} {b0 dk : Nat} {D : Dk} {u0 u1 : Value} (h : RDiskAt M b0 dk D u0 u1) : dk < M.length := (List.getElem?_eq_some_iff.1 h.cells).1
theorem RDiskAt.at_ {M : AM} {b0 dk : Nat} {D : Dk} {u0 u1 : Value} (h : RDiskAt M b0 dk D u0 u1) {j : Nat} (hj : dkD dk u0 u1 j) : b0 ≤ j ∧ ∃ b, M[j]? = some (some b) ∧ b.kind.mine = true := by
 rcases hj with rfl | hj | hj
 ·exact ⟨h.lo, _, h.cells, rfl⟩
 ·exact h.r0.at_ hj
 ·exact h.r1.at_ hj
theorem RDiskAt.keep {M M' : AM} {b0 dk : Nat} {D : Dk} {u0 u1 : Value} (h : RDiskAt M b0 dk D u0 u1) (hk : ∀ j b, M[j]? = some (some b) → dkD dk u0 u1 j → b.kind.mine = true → M'[j]? = some (some b)) : RDiskAt M' b0 dk D u0 u1 :=
 ⟨h.lo, hk _ _ h.cells (.inl rfl) rfl, h.r0.keep fun j b hb hn hm => hk j b hb (.inr (.inl hn)) hm, h.r1.keep fun j b hb hn hm => hk j b hb (.inr (.inr hn)) hm, h.n0, h.n1, h.dis, h.ok⟩
theorem RDiskAt.msub {M M' : AM} {b0 dk : Nat} {D : Dk} {u0 u1 : Value} (h : RDiskAt M b0 dk D u0 u1) (hs : MSub M M') : RDiskAt M' b0 dk D u0 u1 := h.keep fun j b hb _ hm => hs.get j b hm hb
theorem RDiskAt.old {M : AM} {b0 dk : Nat} {D : Dk} {u0 u1 : Value} (h : RDiskAt M b0 dk D u0 u1) (T : AM) : RDiskAt (M ++ T) b0 dk D u0 u1 := h.msub (Sub.app M T).m
theorem RDiskAt.vw {S : Nat → Prop} {M : AM} {b0 dk : Nat} {D : Dk} {u0 u1 : Value} (h : RDiskAt M b0 dk D u0 u1) (hS : ∀ j, dkD dk u0 u1 j → S j) : RDiskAt (Abs.vw S M) b0 dk D u0 u1 := h.keep fun j b hb hj _ => vw_some.2 ⟨hS j hj, hb⟩
theorem RDiskAt.in_ {S : Nat → Prop} {M : AM} {b0 dk : Nat} {D : Dk} {u0 u1 : Value} (h : RDiskAt (Abs.vw S M) b0 dk D u0 u1) : ∀ j, dkD dk u0 u1 j → S j := fun j hj => by
 obtain ⟨_, b, hb, _⟩ := h.at_ hj
 exact (vw_some.1 hb).1
theorem RDiskAt.rd {M : AM} {b0 dk : Nat} {D : Dk} {u0 u1 : Value} (h : RDiskAt M b0 dk D u0 u1) (T : AM) (j : Nat) (v : Value) (hv : (rkd D u0 u1)[j]? = some v) : Rd (M ++ T) dk j v := Rd.old T ⟨_, h.cells, hv⟩
def RkQ (D' : Dk) (b0 dk : Nat) (u0 u1 : Value) (m : AM) (M : AM) : Prop := ∃ u0' u1', RDiskAt M b0 dk D' u0' u1' ∧ Keep (dkD dk u0 u1) m M ∧ ∀ j, j < m.length → ¬ dkD dk u0 u1 j → ¬ dkD dk u0' u1' j
theorem RkQ.refl {b0 dk : Nat} {D : Dk} {u0 u1 : Value} {m : AM} (h : RDiskAt m b0 dk D u0 u1) (T : AM) : RkQ D b0 dk u0 u1 m (m ++ T) := ⟨u0, u1, h.old T, Keep.app _ _ _, fun _ _ hn => hn⟩
theorem RDiskAt.rn {M : AM} {b0 dk : Nat} {D : Dk} {u0 u1 : Value} (h : RDiskAt M b0 dk D u0 u1) (n : Nat) : RowC M b0 (pk n u0 u1) (D.ar n).b := by
 unfold pk Dk.ar
 split
 ·exact h.r0
 ·exact h.r1
theorem RkQ.trans {D1 D2 : Dk} {b0 dk : Nat} {u0 u1 : Value} {m m1 m2 : AM} (h : RkQ D1 b0 dk u0 u1 m m1) (h2 : ∀ u0' u1', RDiskAt m1 b0 dk D1 u0' u1' → RkQ D2 b0 dk u0' u1' m1 m2) : RkQ D2 b0 dk u0 u1 m m2 := by
 obtain ⟨v0, v1, a1, a2, a3⟩ := h
 obtain ⟨w0, w1, c1, c2, c3⟩ := h2 v0 v1 a1
 have hl := a2.len
 exact ⟨w0, w1, c1, ⟨by have := c2.len; omega, fun j hj hn => by rw [c2.get j (by omega) (a3 j hj hn), a2.get j hj hn]⟩, fun j hj hn => c3 j (by omega) (a3 j hj hn)⟩
theorem RkQ.app {D1 : Dk} {b0 dk : Nat} {u0 u1 : Value} {m m1 : AM} (h : RkQ D1 b0 dk u0 u1 m m1) (T : AM) : RkQ D1 b0 dk u0 u1 m (m1 ++ T) := h.trans fun _ _ hD => RkQ.refl hD T
theorem RkQ.after {D2 : Dk} {b0 dk : Nat} {u0 u1 : Value} {m X M : AM} (hk : Keep (dkD dk u0 u1) m X) (h : RkQ D2 b0 dk u0 u1 X M) : RkQ D2 b0 dk u0 u1 m M := by
 obtain ⟨w0, w1, c1, c2, c3⟩ := h
 have hl := hk.len
 exact ⟨w0, w1, c1, ⟨by have := c2.len; omega, fun j hj hn => by rw [c2.get j (by omega) hn, hk.get j hj hn]⟩, fun j hj hn => c3 j (by omega) hn⟩
theorem RDiskAt.cellAt {m : AM} {b0 dk : Nat} {D D1 : Dk} {u0 u1 : Value} (h : RDiskAt m b0 dk D u0 u1) (e0 : D1.a0.b = D.a0.b) (e1 : D1.a1.b = D.a1.b) (hok : OkD D1) : RDiskAt (m.set dk (some { cells := rkd D1 u0 u1 })) b0 dk D1 u0 u1 ∧ Keep (· = dk) m (m.set dk (some { cells := rkd D1 u0 u1 })) := by
 have hk : ∀ j, j ≠ dk → (m.set dk (some { cells := rkd D1 u0 u1 }))[j]? = m[j]? := fun j hj => List.getElem?_set_ne (Ne.symm hj)
 refine ⟨⟨h.lo, List.getElem?_set_self h.lt, ?_, ?_, h.n0, h.n1, h.dis, hok⟩, ⟨by simp, fun j _ hn => hk j fun e => hn e⟩⟩
 ·rw [e0]; exact h.r0.keep fun j b hb hn _ => by rw [hk j (fun e => hn (e ▸ h.n0))]; exact hb
 ·rw [e1]; exact h.r1.keep fun j b hb hn _ => by rw [hk j (fun e => hn (e ▸ h.n1))]; exact hb
theorem RDiskAt.cell {m : AM} {b0 dk : Nat} {D D1 : Dk} {u0 u1 : Value} (h : RDiskAt m b0 dk D u0 u1) (e0 : D1.a0.b = D.a0.b) (e1 : D1.a1.b = D.a1.b) (hok : OkD D1) : RkQ D1 b0 dk u0 u1 m (m.set dk (some { cells := rkd D1 u0 u1 })) := by
 obtain ⟨h1, h2⟩ := h.cellAt e0 e1 hok
 exact ⟨u0, u1, h1, h2.mono fun _ e => .inl e, fun _ _ hn => hn⟩
theorem RDiskAt.spentAt {m : AM} {b0 dk : Nat} {D : Dk} {u0 u1 : Value} (h : RDiskAt m b0 dk D u0 u1) (T : AM) : RDiskAt (m.set dk (some { cells := rkd (spF D).2 u0 u1 }) ++ T) b0 dk (spF D).2 u0 u1 ∧ Keep (· = dk) m (m.set dk (some { cells := rkd (spF D).2 u0 u1 }) ++ T) := by
 obtain ⟨e0, e1, _⟩ := spF_same D
 obtain ⟨h1, h2⟩ := h.cellAt (by rw [e0]) (by rw [e1]) h.ok.sp
 exact ⟨h1.old T, ⟨by rw [List.length_append]; have := h2.len; omega, fun j hj hn => by rw [List.getElem?_append_left (by have := h2.len; omega)]; exact h2.get j hj hn⟩⟩
theorem RDiskAt.spent {m : AM} {b0 dk : Nat} {D : Dk} {u0 u1 : Value} (h : RDiskAt m b0 dk D u0 u1) : RkQ (spF D).2 b0 dk u0 u1 m (m.set dk (some { cells := rkd (spF D).2 u0 u1 })) := by
 obtain ⟨e0, e1, _⟩ := spF_same D
 exact h.cell (by rw [e0]) (by rw [e1]) h.ok.sp
theorem RDiskAt.rowed {m X : AM} {b0 dk n : Nat} {D : Dk} {u0 u1 u : Value} {x : Ar} (h : RDiskAt m b0 dk D u0 u1) (hn : n < 2) (hl : m.length ≤ X.length) (hk : ∀ j, j < m.length → NotB (pk n u0 u1) j → X[j]? = m[j]?) (hr : RowC X b0 u x.b) (hu : ∀ j, j < m.length → NotB (pk n u0 u1) j → NotB u j) (hok : OkD (D.put n x)) :
  RkQ (D.put n x) b0 dk u0 u1 m (X.set dk (some { cells := rkd (D.put n x) (pk n u u0) (pk n u1 u) })) := by
 have hdl := h.lt
 have hnd : NotB (pk n u0 u1) dk := by unfold pk; split; exact h.n0; exact h.n1
 have hud := hu dk hdl hnd
 have hX : ∀ j, j ≠ dk → (X.set dk (some { cells := rkd (D.put n x) (pk n u u0) (pk n u1 u) }))[j]? = X[j]? := fun j hj => List.getElem?_set_ne (Ne.symm hj)
 have hr' : RowC (X.set dk (some { cells := rkd (D.put n x) (pk n u u0) (pk n u1 u) })) b0 u x.b := hr.keep fun j b hb hnj _ => by rw [hX j (fun e => hnj (e ▸ hud))]; exact hb
 have other : ∀ {v : Value} {l : List UInt8}, RowC m b0 v l → NotB v dk → (∀ j, ¬ NotB v j → NotB (pk n u0 u1) j) → RowC (X.set dk (some { cells := rkd (D.put n x) (pk n u u0) (pk n u1 u) })) b0 v l := fun {v l} hv hvd hd => hv.keep fun j b hb hnj _ => by
  rw [hX j (fun e => hnj (e ▸ hvd)), hk j (List.getElem?_eq_some_iff.1 hb).1 (hd j hnj)]
  exact hb
 have hkp : Keep (dkD dk u0 u1) m (X.set dk (some { cells := rkd (D.put n x) (pk n u u0) (pk n u1 u) })) := ⟨by rw [List.length_set]; exact hl, fun j hj hnj => by
  rw [hX j (fun e => hnj (.inl e)), hk j hj (Classical.byContradiction fun e => hnj (dkD_n e))]⟩
 have hcl : (X.set dk (some { cells := rkd (D.put n x) (pk n u u0) (pk n u1 u) }))[dk]? = some (some { cells := rkd (D.put n x) (pk n u u0) (pk n u1 u) }) := List.getElem?_set_self (by omega)
 have huN : ∀ j, j < m.length → ¬ dkD dk u0 u1 j → NotB u j := fun j hj hnj => hu j hj (Classical.byContradiction fun e => hnj (dkD_n e))
 refine ⟨pk n u u0, pk n u1 u, ⟨h.lo, hcl, ?_, ?_, ?_, ?_, ?_, hok⟩, hkp, ?_⟩
 all_goals rcases (show n = 0 ∨ n = 1 by omega) with rfl | rfl
 ·exact hr'
 ·exact other h.r0 h.n0 fun j hj => (h.dis j).resolve_left hj
 ·exact other h.r1 h.n1 fun j hj => (h.dis j).resolve_right hj
 ·exact hr'
 ·exact hud
 ·exact h.n0
 ·exact h.n1
 ·exact hud
 ·intro j
  by_cases hj : NotB u1 j
  ·exact .inr hj
  ·exact .inl (hu j (h.r1.lt hj) ((h.dis j).resolve_right hj))
 ·intro j
  by_cases hj : NotB u0 j
  ·exact .inl hj
  ·exact .inr (hu j (h.r0.lt hj) ((h.dis j).resolve_left hj))
 ·rintro j hj hnj (e | e | e)
  ·exact hnj (.inl e)
  ·exact e (huN j hj hnj)
  ·exact hnj (.inr (.inr e))
 ·rintro j hj hnj (e | e | e)
  ·exact hnj (.inl e)
  ·exact hnj (.inr (.inl e))
  ·exact e (huN j hj hnj)
set_option maxHeartbeats 4000000 in
set_option maxRecDepth 100000 in
theorem rdone_ok {m : AM} {dk : Nat} {D : Dk} {u0 u1 : Value} (hc : m[dk]? = some (some { cells := rkd D u0 u1 })) (hl : D.left ≤ 9223372036854775807) :
  ACall Try.prog 125 #[.pointer (some ⟨dk, 0, none⟩)] m (fun r M => r = .bool (spF D).1 ∧ ∃ T, M = m.set dk (some { cells := rkd (spF D).2 u0 u1 }) ++ T) := by
 have hdl := (List.getElem?_eq_some_iff.1 hc).1
 have r5 := fun T => Rd.old T (show Rd m dk (0 + 5) (.bool D.off) from ⟨_, hc, rfl⟩)
 have r6 := fun T => Rd.old T (show Rd m dk (0 + 6) (.int .i64 (lfD D)) from ⟨_, hc, rfl⟩)
 refine ACall.start Try.func125 rfl rfl ?_
 have hlf : lfD D = if D.fused = true then (D.left : Int) else -1 := rfl
 unfold spF
 by_cases h0 : lfD D = 0
 ·rw [h0] at r6
  have hfu : D.fused = true ∧ D.left = 0 := by
   cases hf : D.fused with
   | true => rw [hf, if_pos rfl] at hlf; exact ⟨rfl, by omega⟩
   | false => rw [hf, if_neg (by simp)] at hlf; omega
  (repeat (first|(with_reducible refine AWo.cons ?_)|((with_reducible refine Step.id ?_);first|((with_reducible apply Step.move);exact rfl;exact rfl)|((with_reducible apply Step.assign);exact rfl;exact rfl)|((with_reducible apply Step.load);exact rfl;((decide +kernel));exact rfl;((exact r6 _)))|((with_reducible apply Step.field (k := 5));exact rfl;((decide +kernel));exact rfl)|((with_reducible apply Step.field (k := 6));exact rfl;((decide +kernel));exact rfl)|((with_reducible apply Step.eql);exact rfl;exact rfl;exact rfl)|((with_reducible apply Step.nilp);exact rfl;exact rfl))|(with_reducible first|apply AWo.nil|apply AW.seq|apply Then.n|apply AW.regL)|((with_reducible apply AW.condT);exact rfl;((rfl)))))
  ((with_reducible apply Step.storeAt);exact rfl;exact rfl;exact (get_old _ hc);exact sz4d;exact rfl;((show 0 + 5 < 7;omega));exact rfl;exact rfl)
  rw [List.append_nil]
  obtain ⟨X, hX⟩ : ∃ X, X = m.set dk (some { cells := (rkd D u0 u1).set (0 + 5) (.bool true) }) := ⟨_, rfl⟩
  have hXc : X[dk]? = some (some { cells := (rkd D u0 u1).set (0 + 5) (.bool true) }) := by rw [hX]; exact List.getElem?_set_self hdl
  have r52 := fun T => Rd.old T (show Rd X dk (0 + 5) (.bool true) from ⟨_, hXc, rfl⟩)
  rw [← hX, ← List.append_nil X]
  (repeat (first|(with_reducible refine AWo.cons ?_)|((with_reducible refine Step.id ?_);first|((with_reducible apply Step.move);exact rfl;exact rfl)|((with_reducible apply Step.assign);exact rfl;exact rfl)|((with_reducible apply Step.load);exact rfl;((decide +kernel));exact rfl;((exact r52 _)))|((with_reducible apply Step.field (k := 5));exact rfl;((decide +kernel));exact rfl)|((with_reducible apply Step.nilp);exact rfl;exact rfl))|(with_reducible first|apply AWo.nil|apply AW.seq|apply Then.n|apply AW.regL)|((with_reducible apply AW.condT);exact rfl;((rfl)))))
  (refine AW.ret ?_; (repeat (first | refine Then.r ?_ | refine InBlk.r ?_)))
  refine ⟨_, rfl, ?_, [], ?_⟩
  ·cases ho : D.off <;> simp [hfu.1, hfu.2]
  ·rw [hX]
   cases ho : D.off
   ·simp only [Bool.false_eq_true, if_false, hfu.1, hfu.2, if_true, List.append_nil]
    simp only [rkd, lfD, hfu.1, hfu.2]
    rfl
   ·simp only [if_true, List.append_nil]
    simp only [rkd, lfD, hfu.1, hfu.2, ho]
    rfl
 ·cases ho : D.off with
  | true =>
   rw [ho] at r5
   rw [if_pos rfl]
   (repeat (first|(with_reducible refine AWo.cons ?_)|((with_reducible refine Step.id ?_);first|((with_reducible apply Step.move);exact rfl;exact rfl)|((with_reducible apply Step.assign);exact rfl;exact rfl)|((with_reducible apply Step.load);exact rfl;((decide +kernel));exact rfl;((first|exact r6 _|exact r5 _)))|((with_reducible apply Step.field (k := 5));exact rfl;((decide +kernel));exact rfl)|((with_reducible apply Step.field (k := 6));exact rfl;((decide +kernel));exact rfl)|((with_reducible apply Step.eql);exact rfl;exact rfl;exact rfl)|((with_reducible apply Step.nilp);exact rfl;exact rfl))|(with_reducible first|apply AWo.nil|apply AW.seq|apply Then.n|apply AW.regL|apply AW.skip)|((with_reducible apply AW.condT);exact rfl;((rfl)))|((with_reducible apply AW.condF);exact rfl;(((simp only [zq1, zq2, zq3, zq4, zq5, zq6];first|assumption|omega))))))
   (refine AW.ret ?_; (repeat (first | refine Then.r ?_ | refine InBlk.r ?_)))
   exact ⟨_, rfl, rfl, [], by rw [set_selfT hc]⟩
  | false =>
   rw [ho] at r5
   rw [if_neg (by simp)]
   cases hf : D.fused with
   | false =>
    rw [hf, if_neg (by simp)] at hlf
    rw [hlf] at r6
    rw [if_neg (by simp)]
    (repeat (first|(with_reducible refine AWo.cons ?_)|((with_reducible refine Step.id ?_);first|((with_reducible apply Step.move);exact rfl;exact rfl)|((with_reducible apply Step.assign);exact rfl;exact rfl)|((with_reducible apply Step.load);exact rfl;((decide +kernel));exact rfl;((first|exact r6 _|exact r5 _)))|((with_reducible apply Step.field (k := 5));exact rfl;((decide +kernel));exact rfl)|((with_reducible apply Step.field (k := 6));exact rfl;((decide +kernel));exact rfl)|((with_reducible apply Step.gtr);exact rfl;exact rfl;exact rfl)|((with_reducible apply Step.eql);exact rfl;exact rfl;exact rfl)|((with_reducible apply Step.nilp);exact rfl;exact rfl))|(with_reducible first|apply AWo.nil|apply AW.seq|apply Then.n|apply AW.regL|apply AW.skip)|((with_reducible apply AW.condF);exact rfl;((rfl)))))
    (refine AW.ret ?_; (repeat (first | refine Then.r ?_ | refine InBlk.r ?_)))
    exact ⟨_, rfl, rfl, [], by rw [set_selfT hc]⟩
   | true =>
    rw [hf, if_pos rfl] at hlf
    rw [hlf] at r6
    rw [if_pos rfl, if_neg (by omega)]
    have hd : ((D.left : Int) - 1) = ((D.left - 1 : Nat) : Int) := by omega
    (repeat (first|(with_reducible refine AWo.cons ?_)|((with_reducible refine Step.id ?_);first|((with_reducible apply Step.move);exact rfl;exact rfl)|((with_reducible apply Step.assign);exact rfl;exact rfl)|((with_reducible apply Step.load);exact rfl;((decide +kernel));exact rfl;((first|exact r6 _|exact r5 _)))|((with_reducible apply Step.field (k := 5));exact rfl;((decide +kernel));exact rfl)|((with_reducible apply Step.field (k := 6));exact rfl;((decide +kernel));exact rfl)|((with_reducible apply Step.sub);exact rfl;exact rfl;((omega));exact rfl)|((with_reducible apply Step.gtr);exact rfl;exact rfl;exact rfl)|((with_reducible apply Step.eql);exact rfl;exact rfl;exact rfl)|((with_reducible apply Step.nilp);exact rfl;exact rfl))|(with_reducible first|apply AWo.nil|apply AW.seq|apply Then.n|apply AW.regL|apply AW.skip)|((with_reducible apply AW.condT);exact rfl;(((simp only [zq1, zq2, zq3, zq4, zq5, zq6];first|assumption|omega))))|((with_reducible apply AW.condF);exact rfl;((first|rfl|(simp only [zq1, zq2, zq3, zq4, zq5, zq6];first|assumption|omega))))))
    ((with_reducible apply Step.storeAt);exact rfl;exact rfl;exact (get_old _ hc);exact sz3d;exact rfl;((show 0 + 6 < 7;omega));exact rfl;exact rfl)
    (repeat (first|(with_reducible refine AWo.cons ?_)|((with_reducible refine Step.id ?_);((with_reducible apply Step.assign);exact rfl;exact rfl))|(with_reducible first|apply AWo.nil|apply AW.seq|apply Then.n|apply AW.regL)))
    (refine AW.ret ?_; (repeat (first | refine Then.r ?_ | refine InBlk.r ?_)))
    refine ⟨_, rfl, rfl, [], ?_⟩
    rw [List.append_nil, List.append_nil, hd]
    simp only [rkd, lfD, ho, hf]
    rfl
theorem RDiskAt.doneAt {m : AM} {b0 dk : Nat} {D : Dk} {u0 u1 : Value} (h : RDiskAt m b0 dk D u0 u1) (T : AM) : RDiskAt (m.set dk (some { cells := rkd (spF D).2 u0 u1 }) ++ T) b0 dk (spF D).2 u0 u1 ∧ Keep (· = dk) m (m.set dk (some { cells := rkd (spF D).2 u0 u1 }) ++ T) := by
 obtain ⟨e0, e1, _⟩ := spF_same D
 obtain ⟨h1, h2⟩ := h.cellAt (by rw [e0]) (by rw [e1]) h.ok.sp
 exact ⟨h1.old T, ⟨by rw [List.length_append]; have := h2.len; omega, fun j hj hn => by rw [List.getElem?_append_left (by have := h2.len; omega)]; exact h2.get j hj hn⟩⟩
theorem ar144 : arB Try.prog 144 = some (2, 1) := by kernel_rfl
theorem RkQ.refl' {b0 dk : Nat} {D : Dk} {u0 u1 : Value} {m : AM} (h : RDiskAt m b0 dk D u0 u1) : RkQ D b0 dk u0 u1 m m := by have := RkQ.refl h []; rwa [List.append_nil] at this
set_option maxHeartbeats 8000000 in
set_option maxRecDepth 100000 in
theorem RAppend_ok {m : AM} {b0 dk : Nat} {D : Dk} {u0 u1 w : Value} {p : List UInt8} (n : Int) (h : RDiskAt m b0 dk D u0 u1) (hb0 : b0 ≤ m.length) (hp : ∀ M, Keep (· = dk) m M → Byts M w p) (hlen : p.length ≤ 1000000000) :
  ACall Try.prog 77 #[.pointer (some ⟨dk, 0, none⟩), .int .i64 n, w] m (fun r M => r = .int .i64 (apF D n p).1 ∧ RkQ (apF D n p).2 b0 dk u0 u1 m M) := by
 have hlo := h.ok.lo
 have hhi := h.ok.hi
 have hdl := h.lt
 obtain ⟨aw, ow', hws, _⟩ := hp m (Keep.refl _ _)
 refine ACall.start Try.func77 rfl rfl ?_
 unfold apF
 by_cases c : inA n
 ·rw [if_pos c]
  obtain ⟨k, rfl⟩ := Int.eq_ofNat_of_zero_le c.1
  have hk : k < 2 := by have := c.2; omega
  rw [show ((k : Nat) : Int).toNat = k from rfl]
  have r0 := fun T => h.rd T 0 _ rfl
  have ru := fun T => h.rd T _ _ (rkd_u hk)
  have hrn := h.rn k
  obtain ⟨au, hus, hau, _⟩ := hrn.sl (by omega)
  obtain ⟨q1, q2⟩ := h.ok.arl k
  by_cases c1 : D.most - (D.ar k).b.length < p.length
  ·rw [if_pos c1]
   (repeat (first|(with_reducible refine AWo.cons ?_)|((with_reducible refine Step.id ?_);first|((with_reducible apply Step.gdT);exact rfl;exact rfl;((rfl)))|((with_reducible apply Step.move);exact rfl;exact rfl)|((with_reducible apply Step.assign);exact rfl;exact rfl)|((with_reducible apply Step.load);exact rfl;((decide +kernel));exact rfl;((first|exact r0 _|exact ru _)))|((with_reducible apply Step.field0);exact rfl;((decide +kernel));exact rfl)|((with_reducible apply Step.field (k := 1));exact rfl;((decide +kernel));exact rfl)|((with_reducible apply Step.ixC (n := 2));exact rfl;exact rfl;exact ar144;exact rfl;((omega)))|((with_reducible apply Step.add);exact rfl;exact rfl;((omega));exact rfl)|((with_reducible apply Step.lss);exact rfl;exact rfl;exact rfl)|((with_reducible apply Step.gtr);exact rfl;exact rfl;exact rfl)|((with_reducible apply Step.len);exact rfl;((assumption));((decide +kernel));exact rfl)|((with_reducible apply Step.nilp);exact rfl;exact rfl)|((with_reducible apply Step.pickF);exact rfl;exact rfl;exact rfl;exact rfl;((rfl))))|(with_reducible first|apply AWo.nil|apply AW.seq|apply Then.n|apply AW.regL|apply AW.block)|((with_reducible apply AW.drawL fit);((decide +kernel)))|((with_reducible apply AW.condT);exact rfl;(((simp only [zq1, zq2, zq3, zq4, zq5, zq6];first|assumption|omega))))|((with_reducible apply AW.condF);exact rfl;(((simp only [zq1, zq2, zq3, zq4, zq5, zq6];first|assumption|omega))))))
   (refine AW.ret ?_; (repeat (first | refine Then.r ?_ | refine InBlk.r ?_)))
   exact ⟨_, rfl, rfl, RkQ.refl h _⟩
  ·rw [if_neg c1]
   (repeat (first|(with_reducible refine AWo.cons ?_)|((with_reducible refine Step.id ?_);first|((with_reducible apply Step.gdT);exact rfl;exact rfl;((rfl)))|((with_reducible apply Step.move);exact rfl;exact rfl)|((with_reducible apply Step.assign);exact rfl;exact rfl)|((with_reducible apply Step.load);exact rfl;((decide +kernel));exact rfl;((first|exact r0 _|exact ru _)))|((with_reducible apply Step.field0);exact rfl;((decide +kernel));exact rfl)|((with_reducible apply Step.field (k := 1));exact rfl;((decide +kernel));exact rfl)|((with_reducible apply Step.ixC (n := 2));exact rfl;exact rfl;exact ar144;exact rfl;((omega)))|((with_reducible apply Step.add);exact rfl;exact rfl;((omega));exact rfl)|((with_reducible apply Step.lss);exact rfl;exact rfl;exact rfl)|((with_reducible apply Step.gtr);exact rfl;exact rfl;exact rfl)|((with_reducible apply Step.len);exact rfl;((assumption));((decide +kernel));exact rfl)|((with_reducible apply Step.nilp);exact rfl;exact rfl)|((with_reducible apply Step.pickF);exact rfl;exact rfl;exact rfl;exact rfl;((rfl))))|(with_reducible first|apply AWo.nil|apply AW.seq|apply Then.n|apply AW.regL|apply AW.block)|((with_reducible apply AW.drawL fit);((decide +kernel)))|((with_reducible apply AW.condF);exact rfl;(((simp only [zq1, zq2, zq3, zq4, zq5, zq6];first|assumption|omega))))))
   ((with_reducible apply Step.callF fit);exact rfl;exact Try.func125;exact rfl;exact rfl;(focus (rw [List.append_nil];exact rdone_ok h.cells h.ok.lf)))
   rintro r2 M2 ⟨rfl, T, rfl⟩
   obtain ⟨hX, hkX⟩ := h.doneAt T
   cases hs : (spF D).1 with
   | false =>
    rw [if_neg (by simp)]
    (repeat (first|(with_reducible refine AWo.cons ?_)|((with_reducible refine Step.id ?_);first|((with_reducible apply Step.assign);exact rfl;exact rfl)|((with_reducible apply Step.not);exact rfl;exact rfl))|(with_reducible first|apply AWo.nil|apply AW.seq|apply Then.n|apply AW.regL)|((with_reducible apply AW.condT);exact rfl;((rfl)))))
    (refine AW.ret ?_; (repeat (first | refine Then.r ?_ | refine InBlk.r ?_)))
    exact ⟨_, rfl, rfl, RkQ.after (hkX.mono fun _ e => .inl e) (RkQ.refl' hX)⟩
   | true =>
    rw [if_pos rfl]
    obtain ⟨X, hXe⟩ : ∃ X, X = m.set dk (some { cells := rkd (spF D).2 u0 u1 }) ++ T := ⟨_, rfl⟩
    rw [← hXe] at hX hkX ⊢
    have ha := spF_ar D k
    obtain ⟨_, _, hmo⟩ := spF_same D
    obtain ⟨a1, o1, hs1, hd1⟩ := (hp X hkX).row
    have hrX := hX.rn k
    have ru2 := fun T => hX.rd T _ _ (rkd_u hk)
    have hnd : NotB (pk k u0 u1) dk := by unfold pk; split; exact hX.n0; exact hX.n1
    have hXl := hX.lt
    have hXm := hkX.len
    rw [ha] at hrX
    obtain ⟨a0, hs0, ha0, hd0⟩ := hrX.sl (by omega)
    rw [← List.append_nil X]
    (repeat' (first|(with_reducible refine AWo.cons ?_)|((with_reducible refine Step.id ?_);first|((with_reducible apply Step.move);exact rfl;exact rfl)|((with_reducible apply Step.assign);exact rfl;exact rfl)|((with_reducible apply Step.load);exact rfl;((decide +kernel));exact rfl;((exact ru2 _)))|((with_reducible apply Step.field (k := 1));exact rfl;((decide +kernel));exact rfl)|((with_reducible apply Step.ixC (n := 2));exact rfl;exact rfl;exact ar144;exact rfl;((omega)))|((with_reducible apply Step.not);exact rfl;exact rfl)|((with_reducible apply Step.nilp);exact rfl;exact rfl)|((with_reducible apply Step.buildS 0);exact rfl;exact rfl;exact (fun _ _ => bs22z);exact rfl;((first|(simp only [zq7, zq8, zq9, zq0, iv_set, bv_set, iv_rep, bv_rep] <;> rfl)|rfl))))|(with_reducible first|apply AWo.nil|apply AW.seq|apply Then.n)|((with_reducible apply AW.drawT fit (T := (.step 0 (.step 1 (.step 3 (.step 4 (.step 5 (.step 6 (.step 7 (.step 10 (.step 12 (.step 13 (.both (.step 2 (.step 8 (.step 9 (.step 11 (.step 14 (.step 15 .done)))))) (.step 8 (.step 2 (.step 9 (.step 11 (.step 14 (.step 15 .done)))))))))))))))))));((decide +kernel)))|((with_reducible apply AWt.step);exact rfl)|(with_reducible first|apply InBlk.n|apply AW.skip)|((with_reducible apply AW.condF);exact rfl;((rfl)))|refine AWt.both ?_ ?_))
    all_goals
     ((with_reducible apply Step.appRow2 (b0 := X.length) (n := 0) (c := []) (new := by8 (D.ar k).b));exact rfl;exact rfl;exact (.inr ⟨X.length + 0, .own, 1, by omega, rfl, by rw [get_app];rfl, by simp, .inl rfl⟩);exact hs0;exact (fun h => (hd0 h).old _);exact el22;exact un22;((rw [by8_len];omega));exact (by8_all _);exact rfl;((omega));exact rfl;((simp)))
     intro u1' M1 hr1 hml1 hk1 hn1
     rw [List.nil_append, Nat.zero_add] at hr1
     obtain ⟨N1, hN1⟩ := pre_keep (m0 := X) (M := X ++ [some { cells := [] }]) ⟨_, rfl⟩ hml1 fun j hj => hk1 j (by simp; omega) (by intro n' c' e; simp only [Value.slice.injEq, Option.some.injEq, Addr.mk.injEq] at e; omega)
     rw [← List.append_nil M1]
     (repeat' (((with_reducible apply AWt.step);exact rfl)))
     ((with_reducible apply Step.appRow2 (b0 := X.length) (new := by8 p));exact rfl;exact rfl;exact (hr1.old []);exact hs1;exact (fun h => by rw [hN1];exact ((hd1 h).old N1).old []);exact el22;exact un22;((rw [by8_len];omega));exact (by8_all _);exact rfl;((omega));exact rfl;((rw [hN1];simp)))
     intro u' M' hr' hml' hk' hn'
     rw [← by8_app, ← List.length_append] at hr'
     rw [List.append_nil] at hml' hk' hn'
     obtain ⟨N2, hN2⟩ := pre_keep (m0 := X) (M := M1) ⟨N1, hN1⟩ hml' fun j hj => hk' j (by rw [hN1, List.length_append]; omega) (NotOf.row hr1 hj)
     have hMd : M'[dk]? = some (some { cells := rkd (spF D).2 u0 u1 }) := by rw [hN2, List.getElem?_append_left hXl]; exact hX.cells
     have hus' := hr'.slv.one
     rw [← List.append_nil M']
     (repeat' (first|((with_reducible refine Step.id ?_);((with_reducible apply Step.ixC (n := 2));exact rfl;exact rfl;exact ar144;exact rfl;((omega))))|((with_reducible apply AWt.step);exact rfl)))
     ((with_reducible apply Step.storeAt);exact rfl;exact rfl;exact (get_old [] hMd);exact sz22d;exact rfl;((show 0 + 1 + k < 7;omega));exact hus'.2;exact hus'.1)
     (repeat' (first|(with_reducible refine AWo.cons ?_)|((with_reducible refine Step.id ?_);((with_reducible apply Step.assign);exact rfl;exact rfl))|(with_reducible first|apply AWo.nil|apply AW.seq|apply Then.n|apply AW.regL|apply AWt.done)))
     (refine AW.ret ?_; (repeat (first | refine Then.r ?_ | refine InBlk.r ?_)))
     have hrow := hX.rowed hk (X := M') (x := ⟨(D.ar k).b ++ p, (D.ar k).s⟩) (u := u') (by rw [hN2, List.length_append]; omega) (fun j hj _ => by rw [hN2, List.getElem?_append_left hj]) ((hr'.low (by omega)).c) (fun j hj _ => NotB.row hr' (NotOf.row hr' hj)) (hX.ok.put k (by rw [hmo, List.length_append]; omega) (by show (D.ar k).s ≤ ((D.ar k).b ++ p).length; rw [List.length_append]; omega))
     rw [← ha, rkd_b, ← rkd_setu hk] at hrow
     simp only [ha] at hrow
     refine ⟨_, rfl, rfl, RkQ.after (hkX.mono fun _ e => .inl e) ?_⟩
     simp only [List.append_nil]
     exact hrow
 ·rw [if_neg c]
  simp only [inA] at c
  by_cases c0 : n < 0
  ·(repeat (first|(with_reducible refine AWo.cons ?_)|((with_reducible refine Step.id ?_);first|((with_reducible apply Step.gdF);exact rfl;exact rfl;(((simp only [zq1, zq2, zq3, zq4, zq5, zq6];first|assumption|omega))))|((with_reducible apply Step.move);exact rfl;exact rfl)|((with_reducible apply Step.assign);exact rfl;exact rfl)|((with_reducible apply Step.lss);exact rfl;exact rfl;exact rfl)|((with_reducible apply Step.pickT);exact rfl;exact rfl;exact rfl;exact rfl;(((simp only [zq1, zq2, zq3, zq4, zq5, zq6];first|assumption|omega)))))|(with_reducible first|apply AWo.nil|apply AW.seq|apply Then.n|apply AW.regL|apply AW.block)|((with_reducible apply AW.condT);exact rfl;((rfl)))))
   (refine AW.ret ?_; (repeat (first | refine Then.r ?_ | refine InBlk.r ?_)))
   exact ⟨_, rfl, rfl, RkQ.refl h _⟩
  ·(repeat (first|(with_reducible refine AWo.cons ?_)|((with_reducible refine Step.id ?_);first|((with_reducible apply Step.gdT);exact rfl;exact rfl;(((simp only [zq1, zq2, zq3, zq4, zq5, zq6];first|assumption|omega))))|((with_reducible apply Step.move);exact rfl;exact rfl)|((with_reducible apply Step.assign);exact rfl;exact rfl)|((with_reducible apply Step.lss);exact rfl;exact rfl;exact rfl)|((with_reducible apply Step.gtr);exact rfl;exact rfl;exact rfl)|((with_reducible apply Step.pickF);exact rfl;exact rfl;exact rfl;exact rfl;(((simp only [zq1, zq2, zq3, zq4, zq5, zq6];first|assumption|omega)))))|(with_reducible first|apply AWo.nil|apply AW.seq|apply Then.n|apply AW.regL|apply AW.block)|((with_reducible apply AW.condT);exact rfl;(((simp only [zq1, zq2, zq3, zq4, zq5, zq6];first|assumption|omega))))))
   (refine AW.ret ?_; (repeat (first | refine Then.r ?_ | refine InBlk.r ?_)))
   exact ⟨_, rfl, rfl, RkQ.refl h _⟩
set_option maxHeartbeats 8000000 in
set_option maxRecDepth 100000 in
theorem RSync_ok {m : AM} {b0 dk : Nat} {D : Dk} {u0 u1 : Value} (n : Int) (h : RDiskAt m b0 dk D u0 u1) :
  ACall Try.prog 78 #[.pointer (some ⟨dk, 0, none⟩), .int .i64 n] m (fun r M => r = .int .i64 (syF D n).1 ∧ RkQ (syF D n).2 b0 dk u0 u1 m M) := by
 have hdl := h.lt
 refine ACall.start Try.func78 rfl rfl ?_
 unfold syF
 by_cases c : inA n
 ·rw [if_pos c]
  obtain ⟨k, rfl⟩ := Int.eq_ofNat_of_zero_le c.1
  have hk : k < 2 := by have := c.2; omega
  rw [show ((k : Nat) : Int).toNat = k from rfl]
  (repeat (first|(with_reducible refine AWo.cons ?_)|((with_reducible refine Step.id ?_);first|((with_reducible apply Step.gdT);exact rfl;exact rfl;((rfl)))|((with_reducible apply Step.move);exact rfl;exact rfl)|((with_reducible apply Step.assign);exact rfl;exact rfl)|((with_reducible apply Step.lss);exact rfl;exact rfl;exact rfl)|((with_reducible apply Step.gtr);exact rfl;exact rfl;exact rfl)|((with_reducible apply Step.pickF);exact rfl;exact rfl;exact rfl;exact rfl;((rfl))))|(with_reducible first|apply AWo.nil|apply AW.seq|apply Then.n|apply AW.regL|apply AW.block)|((with_reducible apply AW.condF);exact rfl;(((simp only [zq1, zq2, zq3, zq4, zq5, zq6];first|assumption|omega))))))
  ((with_reducible apply Step.callF fit);exact rfl;exact Try.func125;exact rfl;exact rfl;(focus (rw [List.append_nil];exact rdone_ok h.cells h.ok.lf)))
  rintro r2 M2 ⟨rfl, T, rfl⟩
  obtain ⟨hX, hkX⟩ := h.doneAt T
  have ha := spF_ar D k
  cases hs : (spF D).1 with
  | false =>
   rw [if_neg (by simp)]
   (repeat (first|(with_reducible refine AWo.cons ?_)|((with_reducible refine Step.id ?_);first|((with_reducible apply Step.assign);exact rfl;exact rfl)|((with_reducible apply Step.not);exact rfl;exact rfl))|(with_reducible first|apply AWo.nil|apply AW.seq|apply Then.n|apply AW.regL)|((with_reducible apply AW.condT);exact rfl;((rfl)))))
   (refine AW.ret ?_; (repeat (first | refine Then.r ?_ | refine InBlk.r ?_)))
   exact ⟨_, rfl, rfl, RkQ.after (hkX.mono fun _ e => .inl e) (RkQ.refl' hX)⟩
  | true =>
   rw [if_pos rfl]
   obtain ⟨X, hXe⟩ : ∃ X, X = m.set dk (some { cells := rkd (spF D).2 u0 u1 }) ++ T := ⟨_, rfl⟩
   rw [← hXe] at hX hkX ⊢
   have ru2 := fun T => hX.rd T _ _ (rkd_u hk)
   have hXl := hX.lt
   have hrX := hX.rn k
   obtain ⟨au, hus, hau, _⟩ := hrX.sl (by omega)
   rw [ha] at hus
   rw [← List.append_nil X]
   (repeat (first|(with_reducible refine AWo.cons ?_)|((with_reducible refine Step.id ?_);first|((with_reducible apply Step.move);exact rfl;exact rfl)|((with_reducible apply Step.assign);exact rfl;exact rfl)|((with_reducible apply Step.load);exact rfl;((decide +kernel));exact rfl;((exact ru2 _)))|((with_reducible apply Step.field (k := 1));exact rfl;((decide +kernel));exact rfl)|((with_reducible apply Step.field (k := 3));exact rfl;((decide +kernel));exact rfl)|((with_reducible apply Step.ixC (n := 2));exact rfl;exact rfl;exact ar144;exact rfl;((omega)))|((with_reducible apply Step.len);exact rfl;((assumption));((decide +kernel));exact rfl)|((with_reducible apply Step.not);exact rfl;exact rfl)|((with_reducible apply Step.nilp);exact rfl;exact rfl))|(with_reducible first|apply AWo.nil|apply AW.seq|apply Then.n)|((with_reducible apply AW.drawL fit);((decide +kernel)))|(with_reducible first|apply InBlk.n|apply AW.skip)|((with_reducible apply AW.condF);exact rfl;((rfl)))))
   ((with_reducible apply Step.storeAt);exact rfl;exact rfl;exact (get_old [] hX.cells);exact sz3d;exact rfl;((show 0 + 3 + k < 7;omega));exact rfl;exact rfl)
   (repeat (first|(with_reducible refine AWo.cons ?_)|((with_reducible refine Step.id ?_);((with_reducible apply Step.assign);exact rfl;exact rfl))|(with_reducible first|apply AWo.nil|apply AW.seq|apply Then.n|apply AW.regL)))
   (refine AW.ret ?_; (repeat (first | refine Then.r ?_ | refine InBlk.r ?_)))
   have hb := put_b0 (spF D).2 k (D.ar k).b.length
   rw [ha] at hb
   have hc := hX.cell (D1 := (spF D).2.put k ⟨(D.ar k).b, (D.ar k).b.length⟩) hb.1 hb.2 (hX.ok.put k (by rw [← ha]; exact (hX.ok.arl k).1) (Nat.le_refl _))
   rw [← rkd_sets hk] at hc
   refine ⟨_, rfl, rfl, RkQ.after (hkX.mono fun _ e => .inl e) ?_⟩
   simp only [List.append_nil]
   exact hc
 ·rw [if_neg c]
  simp only [inA] at c
  by_cases c0 : n < 0
  ·(repeat (first|(with_reducible refine AWo.cons ?_)|((with_reducible refine Step.id ?_);first|((with_reducible apply Step.gdF);exact rfl;exact rfl;(((simp only [zq1, zq2, zq3, zq4, zq5, zq6];first|assumption|omega))))|((with_reducible apply Step.move);exact rfl;exact rfl)|((with_reducible apply Step.assign);exact rfl;exact rfl)|((with_reducible apply Step.lss);exact rfl;exact rfl;exact rfl)|((with_reducible apply Step.pickT);exact rfl;exact rfl;exact rfl;exact rfl;(((simp only [zq1, zq2, zq3, zq4, zq5, zq6];first|assumption|omega)))))|(with_reducible first|apply AWo.nil|apply AW.seq|apply Then.n|apply AW.regL|apply AW.block)|((with_reducible apply AW.condT);exact rfl;((rfl)))))
   (refine AW.ret ?_; (repeat (first | refine Then.r ?_ | refine InBlk.r ?_)))
   exact ⟨_, rfl, rfl, RkQ.refl h _⟩
  ·(repeat (first|(with_reducible refine AWo.cons ?_)|((with_reducible refine Step.id ?_);first|((with_reducible apply Step.gdT);exact rfl;exact rfl;(((simp only [zq1, zq2, zq3, zq4, zq5, zq6];first|assumption|omega))))|((with_reducible apply Step.move);exact rfl;exact rfl)|((with_reducible apply Step.assign);exact rfl;exact rfl)|((with_reducible apply Step.lss);exact rfl;exact rfl;exact rfl)|((with_reducible apply Step.gtr);exact rfl;exact rfl;exact rfl)|((with_reducible apply Step.pickF);exact rfl;exact rfl;exact rfl;exact rfl;(((simp only [zq1, zq2, zq3, zq4, zq5, zq6];first|assumption|omega)))))|(with_reducible first|apply AWo.nil|apply AW.seq|apply Then.n|apply AW.regL|apply AW.block)|((with_reducible apply AW.condT);exact rfl;(((simp only [zq1, zq2, zq3, zq4, zq5, zq6];first|assumption|omega))))))
   (refine AW.ret ?_; (repeat (first | refine Then.r ?_ | refine InBlk.r ?_)))
   exact ⟨_, rfl, rfl, RkQ.refl h _⟩
set_option maxHeartbeats 8000000 in
set_option maxRecDepth 100000 in
theorem RClear_ok {m : AM} {b0 dk : Nat} {D : Dk} {u0 u1 : Value} (n : Int) (h : RDiskAt m b0 dk D u0 u1) :
  ACall Try.prog 79 #[.pointer (some ⟨dk, 0, none⟩), .int .i64 n] m (fun r M => r = .int .i64 (clF D n).1 ∧ RkQ (clF D n).2 b0 dk u0 u1 m M) := by
 have hdl := h.lt
 refine ACall.start Try.func79 rfl rfl ?_
 unfold clF
 by_cases c : inA n
 ·rw [if_pos c]
  obtain ⟨k, rfl⟩ := Int.eq_ofNat_of_zero_le c.1
  have hk : k < 2 := by have := c.2; omega
  rw [show ((k : Nat) : Int).toNat = k from rfl]
  (repeat (first|(with_reducible refine AWo.cons ?_)|((with_reducible refine Step.id ?_);first|((with_reducible apply Step.gdT);exact rfl;exact rfl;((rfl)))|((with_reducible apply Step.move);exact rfl;exact rfl)|((with_reducible apply Step.assign);exact rfl;exact rfl)|((with_reducible apply Step.lss);exact rfl;exact rfl;exact rfl)|((with_reducible apply Step.gtr);exact rfl;exact rfl;exact rfl)|((with_reducible apply Step.pickF);exact rfl;exact rfl;exact rfl;exact rfl;((rfl))))|(with_reducible first|apply AWo.nil|apply AW.seq|apply Then.n|apply AW.regL|apply AW.block)|((with_reducible apply AW.condF);exact rfl;(((simp only [zq1, zq2, zq3, zq4, zq5, zq6];first|assumption|omega))))))
  ((with_reducible apply Step.callF fit);exact rfl;exact Try.func125;exact rfl;exact rfl;(focus (rw [List.append_nil];exact rdone_ok h.cells h.ok.lf)))
  rintro r2 M2 ⟨rfl, T, rfl⟩
  obtain ⟨hX, hkX⟩ := h.doneAt T
  cases hs : (spF D).1 with
  | false =>
   rw [if_neg (by simp)]
   (repeat (first|(with_reducible refine AWo.cons ?_)|((with_reducible refine Step.id ?_);first|((with_reducible apply Step.assign);exact rfl;exact rfl)|((with_reducible apply Step.not);exact rfl;exact rfl))|(with_reducible first|apply AWo.nil|apply AW.seq|apply Then.n|apply AW.regL)|((with_reducible apply AW.condT);exact rfl;((rfl)))))
   (refine AW.ret ?_; (repeat (first | refine Then.r ?_ | refine InBlk.r ?_)))
   exact ⟨_, rfl, rfl, RkQ.after (hkX.mono fun _ e => .inl e) (RkQ.refl' hX)⟩
  | true =>
   rw [if_pos rfl]
   obtain ⟨X, hXe⟩ : ∃ X, X = m.set dk (some { cells := rkd (spF D).2 u0 u1 }) ++ T := ⟨_, rfl⟩
   rw [← hXe] at hX hkX ⊢
   have hXl := hX.lt
   rw [← List.append_nil X]
   (repeat (first|(with_reducible refine AWo.cons ?_)|((with_reducible refine Step.id ?_);first|((with_reducible apply Step.move);exact rfl;exact rfl)|((with_reducible apply Step.assign);exact rfl;exact rfl)|((with_reducible apply Step.field (k := 1));exact rfl;((decide +kernel));exact rfl)|((with_reducible apply Step.ixC (n := 2));exact rfl;exact rfl;exact ar144;exact rfl;((omega)))|((with_reducible apply Step.not);exact rfl;exact rfl)|((with_reducible apply Step.nilp);exact rfl;exact rfl))|(with_reducible first|apply AWo.nil|apply AW.seq|apply Then.n|apply AW.regL|apply InBlk.n|apply AW.skip)|((with_reducible apply AW.condF);exact rfl;((rfl)))))
   ((with_reducible apply Step.storeAt);exact rfl;exact rfl;exact (get_old [] hX.cells);exact sz22d;exact rfl;((show 0 + 1 + k < 7;omega));exact rfl;exact rfl)
   rw [List.append_nil]
   have hc2 : (X.set dk (some { cells := (rkd (spF D).2 u0 u1).set (0 + 1 + k) (.slice none 0 0) }))[dk]? = some (some { cells := (rkd (spF D).2 u0 u1).set (0 + 1 + k) (.slice none 0 0) }) := List.getElem?_set_self hXl
   rw [← List.append_nil (X.set dk _)]
   (repeat (first|(with_reducible refine AWo.cons ?_)|((with_reducible refine Step.id ?_);first|((with_reducible apply Step.move);exact rfl;exact rfl)|((with_reducible apply Step.field (k := 3));exact rfl;((decide +kernel));exact rfl)|((with_reducible apply Step.ixC (n := 2));exact rfl;exact rfl;exact ar144;exact rfl;((omega)))|((with_reducible apply Step.nilp);exact rfl;exact rfl))|(with_reducible first|apply AWo.nil|apply AW.seq|apply Then.n|apply AW.regL)))
   ((with_reducible apply Step.storeAt);exact rfl;exact rfl;exact (get_old [] hc2);exact sz3d;exact rfl;((rw [List.length_set];show 0 + 3 + k < 7;omega));exact rfl;exact rfl)
   (repeat (first|(with_reducible refine AWo.cons ?_)|((with_reducible refine Step.id ?_);((with_reducible apply Step.assign);exact rfl;exact rfl))|(with_reducible first|apply AWo.nil|apply AW.seq|apply Then.n|apply AW.regL)))
   (refine AW.ret ?_; (repeat (first | refine Then.r ?_ | refine InBlk.r ?_)))
   have hrow := hX.rowed hk (X := X) (x := ⟨[], 0⟩) (u := .slice none 0 0) (Nat.le_refl _) (fun _ _ _ => rfl) .nil (fun _ _ _ => .nil) (hX.ok.put k (Nat.zero_le _) (Nat.le_refl _))
   rw [← rkd_sets hk, ← rkd_setu hk] at hrow
   refine ⟨_, rfl, rfl, RkQ.after (hkX.mono fun _ e => .inl e) ?_⟩
   simp only [List.append_nil, List.set_set]
   exact hrow
 ·rw [if_neg c]
  simp only [inA] at c
  by_cases c0 : n < 0
  ·(repeat (first|(with_reducible refine AWo.cons ?_)|((with_reducible refine Step.id ?_);first|((with_reducible apply Step.gdF);exact rfl;exact rfl;(((simp only [zq1, zq2, zq3, zq4, zq5, zq6];first|assumption|omega))))|((with_reducible apply Step.move);exact rfl;exact rfl)|((with_reducible apply Step.assign);exact rfl;exact rfl)|((with_reducible apply Step.lss);exact rfl;exact rfl;exact rfl)|((with_reducible apply Step.pickT);exact rfl;exact rfl;exact rfl;exact rfl;(((simp only [zq1, zq2, zq3, zq4, zq5, zq6];first|assumption|omega)))))|(with_reducible first|apply AWo.nil|apply AW.seq|apply Then.n|apply AW.regL|apply AW.block)|((with_reducible apply AW.condT);exact rfl;((rfl)))))
   (refine AW.ret ?_; (repeat (first | refine Then.r ?_ | refine InBlk.r ?_)))
   exact ⟨_, rfl, rfl, RkQ.refl h _⟩
  ·(repeat (first|(with_reducible refine AWo.cons ?_)|((with_reducible refine Step.id ?_);first|((with_reducible apply Step.gdT);exact rfl;exact rfl;(((simp only [zq1, zq2, zq3, zq4, zq5, zq6];first|assumption|omega))))|((with_reducible apply Step.move);exact rfl;exact rfl)|((with_reducible apply Step.assign);exact rfl;exact rfl)|((with_reducible apply Step.lss);exact rfl;exact rfl;exact rfl)|((with_reducible apply Step.gtr);exact rfl;exact rfl;exact rfl)|((with_reducible apply Step.pickF);exact rfl;exact rfl;exact rfl;exact rfl;(((simp only [zq1, zq2, zq3, zq4, zq5, zq6];first|assumption|omega)))))|(with_reducible first|apply AWo.nil|apply AW.seq|apply Then.n|apply AW.regL|apply AW.block)|((with_reducible apply AW.condT);exact rfl;(((simp only [zq1, zq2, zq3, zq4, zq5, zq6];first|assumption|omega))))))
   (refine AW.ret ?_; (repeat (first | refine Then.r ?_ | refine InBlk.r ?_)))
   exact ⟨_, rfl, rfl, RkQ.refl h _⟩
set_option maxHeartbeats 8000000 in
set_option maxRecDepth 100000 in
theorem RRead_ok {m : AM} {b0 dk : Nat} {D : Dk} {u0 u1 : Value} (n : Int) (h : RDiskAt m b0 dk D u0 u1) :
  ACall Try.prog 80 #[.pointer (some ⟨dk, 0, none⟩), .int .i64 n] m (More (fun M r => ∃ u, r = .tuple #[u, .int .i64 (rdF D n).2] ∧ Row M m.length 1 u (by8 (rdF D n).1) (rdF D n).1.length) m) := by
 have hdl := h.lt
 have hhi := h.ok.hi
 refine ACall.start Try.func80 rfl rfl ?_
 unfold rdF
 by_cases c : inA n
 ·rw [if_pos c]
  obtain ⟨k, rfl⟩ := Int.eq_ofNat_of_zero_le c.1
  have hk : k < 2 := by have := c.2; omega
  rw [show ((k : Nat) : Int).toNat = k from rfl]
  have r5 := fun T => h.rd T (0 + 5) _ rfl
  have ru := fun T => h.rd T _ _ (rkd_u hk)
  have hrn := h.rn k
  obtain ⟨q1, q2⟩ := h.ok.arl k
  obtain ⟨a0, hs0, ha0, hd0⟩ := hrn.sl (by omega)
  cases ho : D.off with
  | true =>
   rw [ho] at r5
   rw [if_pos rfl]
   (repeat (first|(with_reducible refine AWo.cons ?_)|((with_reducible refine Step.id ?_);first|((with_reducible apply Step.gdT);exact rfl;exact rfl;((rfl)))|((with_reducible apply Step.move);exact rfl;exact rfl)|((with_reducible apply Step.assign);exact rfl;exact rfl)|((with_reducible apply Step.load);exact rfl;((decide +kernel));exact rfl;((exact r5 _)))|((with_reducible apply Step.field (k := 5));exact rfl;((decide +kernel));exact rfl)|((with_reducible apply Step.lss);exact rfl;exact rfl;exact rfl)|((with_reducible apply Step.gtr);exact rfl;exact rfl;exact rfl)|((with_reducible apply Step.nilp);exact rfl;exact rfl)|((with_reducible apply Step.pickF);exact rfl;exact rfl;exact rfl;exact rfl;((rfl))))|(with_reducible first|apply AWo.nil|apply AW.seq|apply Then.n|apply AW.regL|apply AW.block)|((with_reducible apply AW.condT);exact rfl;((rfl)))|((with_reducible apply AW.condF);exact rfl;(((simp only [zq1, zq2, zq3, zq4, zq5, zq6];first|assumption|omega))))))
   (refine AW.ret ?_; (repeat (first | refine Then.r ?_ | refine InBlk.r ?_)))
   exact ⟨_, rfl, [], rfl, _, rfl, Row.nil⟩
  | false =>
   rw [ho] at r5
   rw [if_neg (by simp)]
   (repeat (first|(with_reducible refine AWo.cons ?_)|((with_reducible refine Step.id ?_);first|((with_reducible apply Step.gdT);exact rfl;exact rfl;((rfl)))|((with_reducible apply Step.move);exact rfl;exact rfl)|((with_reducible apply Step.assign);exact rfl;exact rfl)|((with_reducible apply Step.load);exact rfl;((decide +kernel));exact rfl;((first|exact r5 _|exact ru _)))|((with_reducible apply Step.field (k := 1));exact rfl;((decide +kernel));exact rfl)|((with_reducible apply Step.field (k := 5));exact rfl;((decide +kernel));exact rfl)|((with_reducible apply Step.ixC (n := 2));exact rfl;exact rfl;exact ar144;exact rfl;((omega)))|((with_reducible apply Step.lss);exact rfl;exact rfl;exact rfl)|((with_reducible apply Step.gtr);exact rfl;exact rfl;exact rfl)|((with_reducible apply Step.nilp);exact rfl;exact rfl)|((with_reducible apply Step.pickF);exact rfl;exact rfl;exact rfl;exact rfl;((rfl)))|((with_reducible apply Step.buildS 0);exact rfl;exact rfl;exact (fun _ _ => bs22z);exact rfl;((first|(simp only [zq7, zq8, zq9, zq0, iv_set, bv_set, iv_rep, bv_rep] <;> rfl)|rfl))))|(with_reducible first|apply AWo.nil|apply AW.seq|apply Then.n|apply AW.regL|apply AW.block|apply InBlk.n|apply AW.skip)|((with_reducible apply AW.condF);exact rfl;((first|rfl|(simp only [zq1, zq2, zq3, zq4, zq5, zq6];first|assumption|omega))))))
   ((with_reducible apply Step.appRow2 (b0 := m.length) (n := 0) (c := []) (new := by8 (D.ar k).b));exact rfl;exact rfl;exact (.inr ⟨m.length + 0, .own, 1, by omega, rfl, by rw [get_app];rfl, by simp, .inl rfl⟩);exact hs0;exact (fun h => (hd0 h).old _);exact el22;exact un22;((rw [by8_len];omega));exact (by8_all _);exact rfl;((omega));exact rfl;((simp)))
   intro u1' M1 hr1 hml1 hk1 hn1
   rw [List.nil_append, Nat.zero_add] at hr1
   obtain ⟨N1, hN1⟩ := pre_keep (m0 := m) (M := m ++ [some { cells := [] }]) ⟨_, rfl⟩ hml1 fun j hj => hk1 j (by simp; omega) (by intro n' c' e; simp only [Value.slice.injEq, Option.some.injEq, Addr.mk.injEq] at e; omega)
   rw [← List.append_nil M1]
   (repeat (first|(with_reducible refine AWo.cons ?_)|((with_reducible refine Step.id ?_);((with_reducible apply Step.assign);exact rfl;exact rfl))|(with_reducible first|apply AWo.nil|apply Then.n)))
   (refine AW.ret ?_; (repeat (first | refine Then.r ?_ | refine InBlk.r ?_)))
   exact ⟨_, rfl, N1, by rw [List.append_nil]; exact hN1, _, rfl, by rw [List.append_nil]; exact hr1⟩
 ·rw [if_neg c]
  simp only [inA] at c
  by_cases c0 : n < 0
  ·(repeat (first|(with_reducible refine AWo.cons ?_)|((with_reducible refine Step.id ?_);first|((with_reducible apply Step.gdF);exact rfl;exact rfl;(((simp only [zq1, zq2, zq3, zq4, zq5, zq6];first|assumption|omega))))|((with_reducible apply Step.move);exact rfl;exact rfl)|((with_reducible apply Step.assign);exact rfl;exact rfl)|((with_reducible apply Step.lss);exact rfl;exact rfl;exact rfl)|((with_reducible apply Step.pickT);exact rfl;exact rfl;exact rfl;exact rfl;(((simp only [zq1, zq2, zq3, zq4, zq5, zq6];first|assumption|omega)))))|(with_reducible first|apply AWo.nil|apply AW.seq|apply Then.n|apply AW.regL|apply AW.block)|((with_reducible apply AW.condT);exact rfl;((rfl)))))
   (refine AW.ret ?_; (repeat (first | refine Then.r ?_ | refine InBlk.r ?_)))
   exact ⟨_, rfl, [], rfl, _, rfl, Row.nil⟩
  ·(repeat (first|(with_reducible refine AWo.cons ?_)|((with_reducible refine Step.id ?_);first|((with_reducible apply Step.gdT);exact rfl;exact rfl;(((simp only [zq1, zq2, zq3, zq4, zq5, zq6];first|assumption|omega))))|((with_reducible apply Step.move);exact rfl;exact rfl)|((with_reducible apply Step.assign);exact rfl;exact rfl)|((with_reducible apply Step.lss);exact rfl;exact rfl;exact rfl)|((with_reducible apply Step.gtr);exact rfl;exact rfl;exact rfl)|((with_reducible apply Step.pickF);exact rfl;exact rfl;exact rfl;exact rfl;(((simp only [zq1, zq2, zq3, zq4, zq5, zq6];first|assumption|omega)))))|(with_reducible first|apply AWo.nil|apply AW.seq|apply Then.n|apply AW.regL|apply AW.block)|((with_reducible apply AW.condT);exact rfl;(((simp only [zq1, zq2, zq3, zq4, zq5, zq6];first|assumption|omega))))))
   (refine AW.ret ?_; (repeat (first | refine Then.r ?_ | refine InBlk.r ?_)))
   exact ⟨_, rfl, [], rfl, _, rfl, Row.nil⟩
set_option maxHeartbeats 8000000 in
set_option maxRecDepth 100000 in
theorem RFuse_ok {m : AM} {b0 dk : Nat} {D : Dk} {u0 u1 : Value} (k : Int) (hk : k ≤ 9223372036854775807) (h : RDiskAt m b0 dk D u0 u1) :
  ACall Try.prog 81 #[.pointer (some ⟨dk, 0, none⟩), .int .i64 k] m (fun r M => r = .tuple #[] ∧ RkQ (fuF D k) b0 dk u0 u1 m M) := by
 have hdl := h.lt
 refine ACall.start Try.func81 rfl rfl ?_
 have hmx : max k (-1) = lfD (fuF D k) := by
  unfold lfD fuF
  by_cases c : 0 ≤ k
  ·simp only [c, decide_true, if_true]; omega
  ·simp only [c, decide_false, Bool.false_eq_true, if_false]; omega
 (repeat (first|(with_reducible refine AWo.cons ?_)|((with_reducible refine Step.id ?_);first|((with_reducible apply Step.move);exact rfl;exact rfl)|((with_reducible apply Step.field (k := 6));exact rfl;((decide +kernel));exact rfl)|((with_reducible apply Step.max);exact rfl;exact rfl;exact rfl)|((with_reducible apply Step.nilp);exact rfl;exact rfl))|(with_reducible apply AW.regL)))
 rw [hmx]
 ((with_reducible apply Step.storeAt);exact rfl;exact rfl;exact (get_old _ h.cells);exact sz3d;exact rfl;((show 0 + 6 < 7;omega));exact rfl;exact rfl)
 (repeat ((with_reducible apply AWo.nil)))
 refine ⟨_, rfl, rfl, ?_⟩
 rw [List.append_nil]
 exact h.cell (D1 := fuF D k) rfl rfl (fuF_ok h.ok hk)
theorem RkQ.next {D2 : Dk} {b0 dk : Nat} {u0 u1 v0 v1 : Value} {m X M : AM} (hk : Keep (dkD dk u0 u1) m X) (hf : ∀ j, j < m.length → ¬ dkD dk u0 u1 j → ¬ dkD dk v0 v1 j) (h : RkQ D2 b0 dk v0 v1 X M) : RkQ D2 b0 dk u0 u1 m M := by
 obtain ⟨w0, w1, c1, c2, c3⟩ := h
 have hl := hk.len
 exact ⟨w0, w1, c1, ⟨by have := c2.len; omega, fun j hj hn => by rw [c2.get j (by omega) (hf j hj hn), hk.get j hj hn]⟩, fun j hj hn => c3 j (by omega) (hf j hj hn)⟩
set_option maxHeartbeats 8000000 in
set_option maxRecDepth 100000 in
theorem RCrash_ok {m : AM} {b0 dk : Nat} {D : Dk} {u0 u1 : Value} (k0 k1 : Int) (hb0 : b0 ≤ m.length) (h : RDiskAt m b0 dk D u0 u1) :
  ACall Try.prog 82 #[.pointer (some ⟨dk, 0, none⟩), .int .i64 k0, .int .i64 k1] m (fun r M => r = .tuple #[] ∧ RkQ (crF D k0 k1) b0 dk u0 u1 m M) := by
 have hdl := h.lt
 refine ACall.start Try.func82 rfl rfl ?_
 (repeat (first|(with_reducible refine AWo.cons ?_)|((with_reducible refine Step.id ?_);first|((with_reducible apply Step.move);exact rfl;exact rfl)|((with_reducible apply Step.build);exact rfl;exact bl145;exact rfl))|(with_reducible first|apply AWo.nil|apply AW.seq|apply Then.n|apply AW.regL|apply AW.block)))
 refine AW.midX 0 (fun t' M => RkQ (crS D k0 k1 2) b0 dk u0 u1 m M ∧ All (fun i v => t' i = some v) [(0, .pointer (some ⟨dk, 0, none⟩))]) ?_ ?_
 ·refine AW.loopW (fun q t M => ∃ n : Nat, q = 2 - n ∧ n ≤ 2 ∧ RkQ (crS D k0 k1 n) b0 dk u0 u1 m M ∧
   t = fr [(0, .pointer (some ⟨dk, 0, none⟩)), (11, .agg #[.int .i64 k0, .int .i64 k1]), (12, .int .i64 (n : Nat))]) ⟨_, _, (by repeat (first | exact trivial | (refine And.intro rfl ?_))), 0, rfl, Nat.zero_le _, RkQ.refl h [], rfl⟩ ?_
  rintro q t M ⟨n, rfl, hn, hQ, rfl⟩
  refine AW.rebase ?_
  rcases Nat.lt_or_ge n 2 with hlt | hge
  ·have hS := crS_succ D k0 k1 hlt
   have hv : #[Value.int .i64 k0, .int .i64 k1][n]? = some (.int .i64 (if n = 0 then k0 else k1)) := by
    rcases (show n = 0 ∨ n = 1 by omega) with rfl | rfl <;> rfl
   generalize (if n = 0 then k0 else k1) = kk at *
   generalize crS D k0 k1 n = E at *
   obtain ⟨v0, v1, hD, hkp, hfr⟩ := hQ
   have hDl := hD.lt
   have hhi := hD.ok.hi
   have hML := hkp.len
   obtain ⟨q1, q2⟩ := hD.ok.arl n
   have hrn := hD.rn n
   obtain ⟨au, hus, hau, _⟩ := hrn.sl (by omega)
   have ru := fun T => hD.rd T _ _ (rkd_u hlt)
   have rs := fun T => hD.rd T _ _ (rkd_s hlt)
   obtain ⟨s', hs'⟩ : ∃ s', s' = (E.ar n).s + (max 0 (min kk (((E.ar n).b.length : Int) - ((E.ar n).s : Int)))).toNat := ⟨_, rfl⟩
   have hsv : (((E.ar n).s : Nat) : Int) + min (max kk 0) (((E.ar n).b.length : Int) - ((E.ar n).s : Int)) = ((s' : Nat) : Int) := by omega
   have hsl : s' ≤ (E.ar n).b.length := by omega
   have hcr : crA (E.ar n) kk = ⟨(E.ar n).b.take s', s'⟩ := by rw [hs']; rfl
   (repeat (first|(with_reducible refine AWo.cons ?_)|((with_reducible refine Step.id ?_);first|((with_reducible apply Step.move);exact rfl;exact rfl)|((with_reducible apply Step.assign);exact rfl;exact rfl)|((with_reducible apply Step.load);exact rfl;((decide +kernel));exact rfl;((first|exact ru _|exact rs _)))|((with_reducible apply Step.field (k := 1));exact rfl;((decide +kernel));exact rfl)|((with_reducible apply Step.field (k := 3));exact rfl;((decide +kernel));exact rfl)|((with_reducible apply Step.ixC (n := 2));exact rfl;exact rfl;exact ar144;exact rfl;((omega)))|((with_reducible apply Step.indexV);exact rfl;exact rfl;exact un145;exact sz3;((decide +kernel));((omega));((assumption));exact rfl)|((with_reducible apply Step.add);exact rfl;exact rfl;((omega));exact rfl)|((with_reducible apply Step.sub);exact rfl;exact rfl;((omega));exact rfl)|((with_reducible apply Step.lss);exact rfl;exact rfl;exact rfl)|((with_reducible apply Step.len);exact rfl;((assumption));((decide +kernel));exact rfl)|((with_reducible apply Step.max);exact rfl;exact rfl;exact rfl)|((with_reducible apply Step.min);exact rfl;exact rfl;exact rfl)|((with_reducible apply Step.nilp);exact rfl;exact rfl))|(with_reducible first|apply AWo.nil|apply AW.seq|apply Then.n|apply AW.regL|apply AW.block)|((with_reducible apply AW.drawL fit);((decide +kernel)))|((with_reducible apply AW.drawT fit (T := (.step 0 (.step 1 (.step 2 (.step 3 (.step 4 (.step 5 (.step 6 (.step 7 (.step 8 (.step 9 (.step 11 (.step 12 (.step 10 (.step 13 (.step 14 .done)))))))))))))))));((decide +kernel)))|((with_reducible apply AWt.step);exact rfl)|(with_reducible apply AW.skip)|((with_reducible apply AW.condT);exact rfl;(((simp only [zq1, zq2, zq3, zq4, zq5, zq6];first|assumption|omega))))))
   rw [hsv]
   (repeat ((with_reducible refine AWo.cons ?_)))
   have hnd : NotB (pk n v0 v1) dk := by unfold pk; split; exact hD.n0; exact hD.n1
   ((with_reducible apply Step.cutX (h := s') (l := (E.ar n).b));exact rfl;exact rfl;exact rfl;exact (hrn.old []);exact rfl;exact rfl;exact hsl;exact un22;exact sz5;((simp;omega));exact rfl)
   intro u' M' hr' hml' hk' hu'
   rw [List.append_nil] at hml' hk' hu'
   have hus' := hr'.slv.one
   have hMd : M'[dk]? = some (some { cells := rkd E v0 v1 }) := by rw [hk' dk hDl hnd]; exact hD.cells
   rw [← List.append_nil M']
   (repeat (first|((with_reducible refine Step.id ?_);((with_reducible apply Step.ixC (n := 2));exact rfl;exact rfl;exact ar144;exact rfl;((omega))))|((with_reducible apply AWt.step);exact rfl)))
   ((with_reducible apply Step.storeAt);exact rfl;exact rfl;exact (get_old [] hMd);exact sz22d;exact rfl;((show 0 + 1 + n < 7;omega));exact hus'.2;exact hus'.1)
   rw [List.append_nil]
   have hc2 : (M'.set dk (some { cells := (rkd E v0 v1).set (0 + 1 + n) u' }))[dk]? = some (some { cells := (rkd E v0 v1).set (0 + 1 + n) u' }) := List.getElem?_set_self (by omega)
   rw [← List.append_nil (M'.set dk _)]
   (repeat (first|(with_reducible refine AWo.cons ?_)|((with_reducible refine Step.id ?_);first|((with_reducible apply Step.move);exact rfl;exact rfl)|((with_reducible apply Step.field (k := 3));exact rfl;((decide +kernel));exact rfl)|((with_reducible apply Step.ixC (n := 2));exact rfl;exact rfl;exact ar144;exact rfl;((omega)))|((with_reducible apply Step.nilp);exact rfl;exact rfl))|(with_reducible first|apply Then.n|apply AW.regL|apply AWt.done)))
   ((with_reducible apply Step.storeAt);exact rfl;exact rfl;exact (get_old [] hc2);exact sz3d;exact rfl;((rw [List.length_set];show 0 + 3 + n < 7;omega));exact rfl;exact rfl)
   have hrow := hD.rowed hlt (X := M') (x := ⟨(E.ar n).b.take s', s'⟩) (u := u') hml' hk' hr' hu' (hD.ok.put n (by rw [List.length_take]; omega) (by show s' ≤ ((E.ar n).b.take s').length; rw [List.length_take]; omega))
   rw [rkd_any (b := (E.ar n).b), ← rkd_sets hlt, ← rkd_setu hlt] at hrow
   have hfin := RkQ.next hkp hfr hrow
   rw [List.append_nil, List.set_set]
   (repeat (first|(with_reducible refine AWo.cons ?_)|((with_reducible refine Step.id ?_);first|((with_reducible apply Step.move);exact rfl;exact rfl)|((with_reducible apply Step.add);exact rfl;exact rfl;((omega));exact rfl))|(with_reducible first|apply AWo.nil|apply Then.n|apply AW.regL|apply InBlk.n)))
   exact ⟨_, [(0, .pointer (some ⟨dk, 0, none⟩)), (11, .agg #[.int .i64 k0, .int .i64 k1]), (12, .int .i64 (n + 1 : Nat))], by omega, (by repeat (first | exact trivial | (refine And.intro rfl ?_))), n + 1, rfl, by omega, by rw [hS, hcr]; exact hfin, rfl⟩
  ·obtain rfl : n = 2 := by omega
   (repeat (first|(with_reducible refine AWo.cons ?_)|((with_reducible refine Step.id ?_);((with_reducible apply Step.lss);exact rfl;exact rfl;exact rfl))|(with_reducible first|apply AWo.nil|apply AW.seq|apply Then.n|apply AW.regL|apply AW.exit|apply Then.e)|((with_reducible apply AW.condF);exact rfl;((rfl)))))
   exact ⟨rfl, by rw [List.append_nil]; exact hQ, (by repeat (first | exact trivial | (refine And.intro rfl ?_)))⟩
 ·rintro t' M ⟨hQ, hsl⟩
  refine InBlk.hit ?_
  refine Then.n ?_
  refine AW.weak (fr_all hsl) ?_
  clear hsl
  refine AW.rebase ?_
  obtain ⟨v0, v1, hD, hkp, hfr⟩ := hQ
  have hDl := hD.lt
  (repeat (first|(with_reducible refine AWo.cons ?_)|((with_reducible refine Step.id ?_);first|((with_reducible apply Step.move);exact rfl;exact rfl)|((with_reducible apply Step.field (k := 5));exact rfl;((decide +kernel));exact rfl)|((with_reducible apply Step.nilp);exact rfl;exact rfl))|(with_reducible first|apply AW.seq|apply AW.regL)))
  ((with_reducible apply Step.storeAt);exact rfl;exact rfl;exact (get_old [] hD.cells);exact sz4d;exact rfl;((show 0 + 5 < 7;omega));exact rfl;exact rfl)
  rw [List.append_nil]
  have hc2 : (M.set dk (some { cells := (rkd (crS D k0 k1 2) v0 v1).set (0 + 5) (.bool false) }))[dk]? = some (some { cells := (rkd (crS D k0 k1 2) v0 v1).set (0 + 5) (.bool false) }) := List.getElem?_set_self hDl
  rw [← List.append_nil (M.set dk _)]
  (repeat (first|(with_reducible refine AWo.cons ?_)|((with_reducible refine Step.id ?_);first|((with_reducible apply Step.move);exact rfl;exact rfl)|((with_reducible apply Step.field (k := 6));exact rfl;((decide +kernel));exact rfl)|((with_reducible apply Step.nilp);exact rfl;exact rfl))|(with_reducible first|apply AWo.nil|apply Then.n|apply AW.regL)))
  ((with_reducible apply Step.storeAt);exact rfl;exact rfl;exact (get_old [] hc2);exact sz3d;exact rfl;((show 0 + 6 < 7;omega));exact rfl;exact rfl)
  (repeat ((with_reducible apply AWo.nil)))
  refine ⟨_, rfl, rfl, ?_⟩
  have e2 : ((rkd (crS D k0 k1 2) v0 v1).set (0 + 5) (.bool false)).set (0 + 6) (.int .i64 (-1)) = rkd (crF D k0 k1) v0 v1 := rfl
  rw [List.append_nil, List.set_set, e2]
  have hc := hD.cell (D1 := crF D k0 k1) rfl rfl ⟨hD.ok.lo, hD.ok.hi, hD.ok.l0, hD.ok.l1, hD.ok.s0, hD.ok.s1, Nat.zero_le _⟩
  obtain ⟨w0, w1, c1, c2, c3⟩ := hc
  exact ⟨w0, w1, c1, ⟨by have := hkp.len; have := c2.len; omega, fun j hj hn => by rw [c2.get j (by have := hkp.len; omega) (hfr j hj hn), hkp.get j hj hn]⟩, fun j hj hn => c3 j (by have := hkp.len; omega) (hfr j hj hn)⟩
def orV (a b : Int) : Int := IntKind.i64.wrap ((BitVec.ofInt IntKind.i64.bits a ||| BitVec.ofInt IntKind.i64.bits b).toNat : Int)
section
variable {P : Program} {nt : Nat} {ops : Array Oper} {t : Fm} {m : AM} {K : Fm → AM → Prop} {d T : Nat} {p : String} {af : Array Edge} {x y : Operand} {X Y : TypeId}
theorem Step.shlW {a : Int} {n : Nat} {kk : IntKind} (hx : evo t x = some (.int .i64 a)) (hy : evo t y = some (.int kk ((n : Nat) : Int))) (hn : n ≤ 62) (hlt : Nat.blt d nt = true) (hK : K (put t d (.int .i64 (IntKind.i64.wrap (a * 2 ^ n)))) m) : Step P nt ops ⟨some d, .binOp .shl X x y Y, T, p, af, none⟩ t m K := by
 refine .ground rfl rfl hlt (by simp [Op.operands, hx, hy, g1, g0]) (fun h => by simp only [aquiet, evD_of hx, evD_of hy, aint, anil]; simpa [evD_of hx, evD_of hy] using h) ?_ (by simp [g1, g0]) hK
 have h3 : Min.min n 64 = n := by omega
 simp [execOp, eqGuard, binOp, evD_of hx, evD_of hy, Op.shift, IntKind.bits, h3, bind, Sem.bind, pure, Sim.still, show ¬ (n : Int) < 0 by omega]
theorem Step.orW {a b : Int} (hx : evo t x = some (.int .i64 a)) (hy : evo t y = some (.int .i64 b)) (hlt : Nat.blt d nt = true) (hK : K (put t d (.int .i64 (orV a b))) m) : Step P nt ops ⟨some d, .binOp .or X x y Y, T, p, af, none⟩ t m K := by
 refine .ground rfl rfl hlt (by simp [Op.operands, hx, hy, g1, g0]) (fun h => by simp only [aquiet, evD_of hx, evD_of hy, aint, anil]; simpa [evD_of hx, evD_of hy] using h) ?_ (by simp [g1, g0]) hK
 simp only [execOp, eqGuard, binOp, evD_of hx, evD_of hy, Op.intBits, bind, Sem.bind, pure, Sim.still]
 rfl
theorem Step.shlU8 {a n : Nat} {kk : IntKind} (hx : evo t x = some (.int .u64 ((a : Nat) : Int))) (hy : evo t y = some (.int kk ((n : Nat) : Int))) (hn : n ≤ 62) (hr : a * 2 ^ n < 18446744073709551616) (hlt : Nat.blt d nt = true) (hK : K (put t d (.int .u64 ((a * 2 ^ n : Nat) : Int))) m) : Step P nt ops ⟨some d, .binOp .shl X x y Y, T, p, af, none⟩ t m K := by
 refine .ground rfl rfl hlt (by simp [Op.operands, hx, hy, g1, g0]) (fun h => by simp only [aquiet, evD_of hx, evD_of hy, aint, anil]; simpa [evD_of hx, evD_of hy] using h) ?_ (by simp [g1, g0]) hK
 have h2 := u64_nat hr
 have h3 : Min.min n 64 = n := by omega
 push_cast at h2 ⊢
 simp [execOp, eqGuard, binOp, evD_of hx, evD_of hy, Op.shift, IntKind.bits, h2, h3, bind, Sem.bind, pure, Sim.still, show ¬ (n : Int) < 0 by omega]
theorem Step.orU8 {a b c : Nat} (hx : evo t x = some (.int .u64 ((a : Nat) : Int))) (hy : evo t y = some (.int .u64 ((b : Nat) : Int))) (ha : a < 18446744073709551616) (hb : b < 18446744073709551616) (hc : a ||| b = c) (hc1 : c < 18446744073709551616) (hlt : Nat.blt d nt = true) (hK : K (put t d (.int .u64 ((c : Nat) : Int))) m) : Step P nt ops ⟨some d, .binOp .or X x y Y, T, p, af, none⟩ t m K := by
 refine .ground rfl rfl hlt (by simp [Op.operands, hx, hy, g1, g0]) (fun h => by simp only [aquiet, evD_of hx, evD_of hy, aint, anil]; simpa [evD_of hx, evD_of hy] using h) ?_ (by simp [g1, g0]) hK
 have h1 : IntKind.u64.wrap ((BitVec.ofInt IntKind.u64.bits (a : Int) ||| BitVec.ofInt IntKind.u64.bits (b : Int)).toNat : Int) = ((c : Nat) : Int) := by
  show IntKind.u64.wrap ((BitVec.ofInt 64 (a : Int) ||| BitVec.ofInt 64 (b : Int)).toNat : Int) = _
  rw [BitVec.ofInt_natCast, BitVec.ofInt_natCast, BitVec.toNat_or, BitVec.toNat_ofNat, BitVec.toNat_ofNat, Nat.mod_eq_of_lt (by omega), Nat.mod_eq_of_lt (by omega), hc]
  exact u64_nat hc1
 simp only [execOp, eqGuard, binOp, evD_of hx, evD_of hy, Op.intBits, bind, Sem.bind, pure, Sim.still, h1]
 rfl
end
def g8 (l : List UInt8) : Int := if numB l ≤ 9223372036854775807 then (numB l : Nat) else orV (IntKind.i64.wrap (((numB (l.take 7) : Nat) : Int) * 2 ^ 8)) (((l.getD 7 0).toNat : Nat) : Int)
set_option maxHeartbeats 4000000 in
set_option maxRecDepth 100000 in
theorem get8_ok {m : AM} {v : Value} {l : List UInt8} (h : Byts m v l) (hl : l.length = 8) : ACall Try.prog 71 #[v] m (Ret (.int .i64 (g8 l)) m) := by
 obtain ⟨a, o, h1, h2, h3⟩ := h
 refine ACall.start Try.func71 rfl rfl ?_
 (repeat (first|(with_reducible refine AWo.cons ?_)|((with_reducible refine Step.id ?_);first|((with_reducible apply Step.move);exact rfl;exact rfl)|((with_reducible apply Step.assign);exact rfl;exact rfl)|((with_reducible apply Step.len);exact rfl;((assumption));((decide +kernel));exact rfl))|(with_reducible first|apply AWo.nil|apply AW.seq|apply Then.n|apply AW.regL|apply AW.block)))
 refine AW.loopT (fun q t L => ∃ (k : Nat) (z : Int), q = l.length - k ∧ k ≤ l.length ∧ (k < 8 → z = (numB (l.take k) : Nat)) ∧ (k = 8 → z = g8 l) ∧ L = [] ∧
  t = [(3, .int .i64 z), (6, v), (7, .int .i64 (l.length : Nat)), (8, .int .i64 (k : Nat))]) ⟨_, _, _, (Or.inl ⟨rfl, (by repeat (first | exact trivial | (refine And.intro rfl ?_)))⟩), 0, 0, rfl, Nat.zero_le _, fun _ => rfl, fun e => absurd e (by omega), rfl, rfl⟩ ?_
 rintro q t L ⟨k, z, rfl, hk, hz1, hz2, rfl, rfl⟩
 rcases Nat.lt_or_ge k l.length with hlt | hge
 ·have hr := h3 k hlt
  have hx := (l.getD k 0).toNat_lt
  have e := numB_snoc (l.take k) (l.getD k 0)
  rw [← take_snocB l k hlt] at e
  have hb := numB_lt (l.take k)
  obtain rfl := hz1 (by omega)
  have hb2 : 2 ^ (8 * (l.take k).length) ≤ 2 ^ 56 := Nat.pow_le_pow_right (by omega) (by rw [List.length_take]; omega)
  rw [show (2 : Nat) ^ 56 = 72057594037927936 by decide] at hb2
  have hall : k = 7 → l.take (k + 1) = l := fun e => List.take_of_length_le (by omega)
  have hget : k = 7 → l.getD k 0 = l.getD 7 0 := fun e => by rw [e]
  generalize hXX : (l.getD k 0).toNat = x at *
  by_cases c : numB (l.take k) * 256 + x ≤ 9223372036854775807
  ·generalize hNN : numB (l.take k) = N at *
   (repeat (first|(with_reducible refine AWo.cons ?_)|((with_reducible refine Step.id ?_);first|((with_reducible apply Step.move);exact rfl;exact rfl)|((with_reducible apply Step.assign);exact rfl;exact rfl)|((with_reducible apply Step.load);exact rfl;((decide +kernel));exact rfl;((exact Rd.old _ (by assumption))))|((with_reducible apply Step.ix1);exact rfl;((assumption));exact rfl;((decide +kernel));exact rfl;((omega)))|((with_reducible apply Step.lss);exact rfl;exact rfl;exact rfl))|(with_reducible first|apply AWo.nil|apply AW.seq|apply Then.n|apply AW.regL|apply AW.block|apply AW.skip)|((with_reducible apply AW.condT);exact rfl;(((simp only [zq1, zq2, zq3, zq4, zq5, zq6];first|assumption|omega))))))
   ((with_reducible apply Step.shlN (n := 8));exact rfl;exact rfl;((omega));((omega));exact rfl)
   (repeat (first|(with_reducible refine AWo.cons ?_)|((with_reducible refine Step.id ?_);first|((with_reducible apply Step.move);exact rfl;exact rfl)|((with_reducible apply Step.u8I);exact rfl;exact un5;exact un3;((omega));exact rfl))))
   ((with_reducible apply Step.orN);exact rfl;exact rfl;((omega));((omega));exact (or8 (by omega));((omega));exact rfl)
   rw [← e]
   (repeat (first|(with_reducible refine AWo.cons ?_)|((with_reducible refine Step.id ?_);first|((with_reducible apply Step.move);exact rfl;exact rfl)|((with_reducible apply Step.assign);exact rfl;exact rfl)|((with_reducible apply Step.add);exact rfl;exact rfl;((omega));exact rfl))|(with_reducible first|apply AWo.nil|apply Then.n|apply AW.regL|apply InBlk.n)))
   exact ⟨_, [(3, .int .i64 ((numB (l.take (k + 1)) : Nat) : Int)), (6, v), (7, .int .i64 (l.length : Nat)), (8, .int .i64 (k + 1 : Nat))], [], by omega, (Or.inl ⟨rfl, (by repeat (first | exact trivial | (refine And.intro rfl ?_)))⟩), k + 1, _, rfl, by omega, fun _ => rfl, fun e8 => by rw [hall (by omega), g8, if_pos (by rw [← hall (by omega), e]; omega)], rfl, rfl⟩
  ·have hk7 : k = 7 := by
    rcases Nat.lt_or_ge k 7 with h7 | h7
    ·have hb3 : 2 ^ (8 * (l.take k).length) ≤ 2 ^ 48 := Nat.pow_le_pow_right (by omega) (by rw [List.length_take]; omega)
     rw [show (2 : Nat) ^ 48 = 281474976710656 by decide] at hb3
     omega
    ·omega
   rw [hall hk7] at e
   have hg8 : g8 l = orV (IntKind.i64.wrap (((numB (l.take k) : Nat) : Int) * 2 ^ 8)) ((x : Nat) : Int) := by rw [g8, if_neg (by omega), ← hXX, hk7]
   generalize hNN : numB (l.take k) = N at *
   (repeat (first|(with_reducible refine AWo.cons ?_)|((with_reducible refine Step.id ?_);first|((with_reducible apply Step.move);exact rfl;exact rfl)|((with_reducible apply Step.assign);exact rfl;exact rfl)|((with_reducible apply Step.load);exact rfl;((decide +kernel));exact rfl;((exact Rd.old _ (by assumption))))|((with_reducible apply Step.ix1);exact rfl;((assumption));exact rfl;((decide +kernel));exact rfl;((omega)))|((with_reducible apply Step.lss);exact rfl;exact rfl;exact rfl))|(with_reducible first|apply AWo.nil|apply AW.seq|apply Then.n|apply AW.regL|apply AW.block|apply AW.skip)|((with_reducible apply AW.condT);exact rfl;(((simp only [zq1, zq2, zq3, zq4, zq5, zq6];first|assumption|omega))))))
   ((with_reducible apply Step.shlW (n := 8));exact rfl;exact rfl;((omega));exact rfl)
   (repeat (first|(with_reducible refine AWo.cons ?_)|((with_reducible refine Step.id ?_);first|((with_reducible apply Step.move);exact rfl;exact rfl)|((with_reducible apply Step.u8I);exact rfl;exact un5;exact un3;((omega));exact rfl))))
   ((with_reducible apply Step.orW);exact rfl;exact rfl;exact rfl)
   rw [← hg8]
   (repeat (first|(with_reducible refine AWo.cons ?_)|((with_reducible refine Step.id ?_);first|((with_reducible apply Step.move);exact rfl;exact rfl)|((with_reducible apply Step.assign);exact rfl;exact rfl)|((with_reducible apply Step.add);exact rfl;exact rfl;((omega));exact rfl))|(with_reducible first|apply AWo.nil|apply Then.n|apply AW.regL|apply InBlk.n)))
   exact ⟨_, [(3, .int .i64 (g8 l)), (6, v), (7, .int .i64 (l.length : Nat)), (8, .int .i64 (k + 1 : Nat))], [], by omega, (Or.inl ⟨rfl, (by repeat (first | exact trivial | (refine And.intro rfl ?_)))⟩), k + 1, _, rfl, by omega, fun e8 => absurd e8 (by omega), fun _ => rfl, rfl, rfl⟩
 ·obtain rfl : k = l.length := by omega
  (repeat (first|(with_reducible refine AWo.cons ?_)|((with_reducible refine Step.id ?_);first|((with_reducible apply Step.move);exact rfl;exact rfl)|((with_reducible apply Step.assign);exact rfl;exact rfl)|((with_reducible apply Step.lss);exact rfl;exact rfl;exact rfl))|(with_reducible first|apply AWo.nil|apply AW.seq|apply Then.n|apply AW.regL|apply AW.exit|apply InBlk.hit|apply Then.e)|((with_reducible apply AW.condF);exact rfl;(((simp only [zq1, zq2, zq3, zq4, zq5, zq6];first|assumption|omega))))))
  (refine AW.retD (l := [(2, _)]) (by repeat (first | exact trivial | (refine And.intro ⟨rfl, by (exact .int _ _)⟩ ?_))) ?_; (repeat (first | refine Then.r ?_ | refine InBlk.r ?_)))
  exact ⟨_, rfl, by rw [hz2 hl], rfl⟩
set_option maxHeartbeats 4000000 in
set_option maxRecDepth 100000 in
theorem value8_ok {m : AM} {v : Value} {l : List UInt8} (h : Byts m v l) (hl : l.length = 8) : ACall Try.prog 75 #[v] m (Ret (.int .i64 (min ((numB l : Nat) : Int) 4611686018427387905)) m) := by
 obtain ⟨a, o, h1, h2, h3⟩ := h
 refine ACall.start Try.func75 rfl rfl ?_
 (repeat (first|(with_reducible refine AWo.cons ?_)|((with_reducible refine Step.id ?_);first|((with_reducible apply Step.move);exact rfl;exact rfl)|((with_reducible apply Step.assign);exact rfl;exact rfl)|((with_reducible apply Step.len);exact rfl;((assumption));((decide +kernel));exact rfl))|(with_reducible first|apply AWo.nil|apply AW.seq|apply Then.n|apply AW.regL|apply AW.block)))
 refine AW.loopT (fun q t L => ∃ k : Nat, q = l.length - k ∧ k ≤ l.length ∧ L = [] ∧
  t = [(3, .int .u64 (numB (l.take k) : Nat)), (6, v), (7, .int .i64 (l.length : Nat)), (8, .int .i64 (k : Nat))]) ⟨_, _, _, (Or.inl ⟨rfl, (by repeat (first | exact trivial | (refine And.intro rfl ?_)))⟩), 0, rfl, Nat.zero_le _, rfl, rfl⟩ ?_
 rintro q t L ⟨k, rfl, hk, rfl, rfl⟩
 have hb := numB_lt (l.take k)
 have hb2 : 2 ^ (8 * (l.take k).length) ≤ 2 ^ 64 := Nat.pow_le_pow_right (by omega) (by rw [List.length_take]; omega)
 rw [show (2 : Nat) ^ 64 = 18446744073709551616 by decide] at hb2
 rcases Nat.lt_or_ge k l.length with hlt | hge
 ·have hr := h3 k hlt
  have hx := (l.getD k 0).toNat_lt
  have e := numB_snoc (l.take k) (l.getD k 0)
  rw [← take_snocB l k hlt] at e
  generalize (l.getD k 0).toNat = x at *
  have hb3 : 2 ^ (8 * (l.take k).length) ≤ 2 ^ 56 := Nat.pow_le_pow_right (by omega) (by rw [List.length_take]; omega)
  rw [show (2 : Nat) ^ 56 = 72057594037927936 by decide] at hb3
  generalize numB (l.take k) = N at *
  (repeat (first|(with_reducible refine AWo.cons ?_)|((with_reducible refine Step.id ?_);first|((with_reducible apply Step.move);exact rfl;exact rfl)|((with_reducible apply Step.assign);exact rfl;exact rfl)|((with_reducible apply Step.load);exact rfl;((decide +kernel));exact rfl;((exact Rd.old _ (by assumption))))|((with_reducible apply Step.ix1);exact rfl;((assumption));exact rfl;((decide +kernel));exact rfl;((omega)))|((with_reducible apply Step.lss);exact rfl;exact rfl;exact rfl))|(with_reducible first|apply AWo.nil|apply AW.seq|apply Then.n|apply AW.regL|apply AW.block|apply AW.skip)|((with_reducible apply AW.condT);exact rfl;(((simp only [zq1, zq2, zq3, zq4, zq5, zq6];first|assumption|omega))))))
  ((with_reducible apply Step.shlU8 (n := 8));exact rfl;exact rfl;((omega));((omega));exact rfl)
  (repeat (first|(with_reducible refine AWo.cons ?_)|((with_reducible refine Step.id ?_);((with_reducible apply Step.move);exact rfl;exact rfl))))
  ((with_reducible apply Step.u8U);exact rfl;exact un5;exact un193;((omega));exact rfl)
  (repeat ((with_reducible refine AWo.cons ?_)))
  ((with_reducible apply Step.orU8);exact rfl;exact rfl;((omega));((omega));exact (or8 (by omega));((omega));exact rfl)
  rw [← e]
  (repeat (first|(with_reducible refine AWo.cons ?_)|((with_reducible refine Step.id ?_);first|((with_reducible apply Step.move);exact rfl;exact rfl)|((with_reducible apply Step.assign);exact rfl;exact rfl)|((with_reducible apply Step.add);exact rfl;exact rfl;((omega));exact rfl))|(with_reducible first|apply AWo.nil|apply Then.n|apply AW.regL|apply InBlk.n)))
  exact ⟨_, _, _, by omega, (Or.inl ⟨rfl, (by repeat (first | exact trivial | (refine And.intro rfl ?_)))⟩), k + 1, rfl, by omega, rfl, rfl⟩
 ·obtain rfl : k = l.length := by omega
  rw [List.take_length] at *
  (repeat (first|(with_reducible refine AWo.cons ?_)|((with_reducible refine Step.id ?_);first|((with_reducible apply Step.move);exact rfl;exact rfl)|((with_reducible apply Step.assign);exact rfl;exact rfl)|((with_reducible apply Step.toI);exact rfl;exact un193;exact un3;((omega));exact rfl)|((with_reducible apply Step.lss);exact rfl;exact rfl;exact rfl)|((with_reducible apply Step.min);exact rfl;exact rfl;exact rfl))|(with_reducible first|apply AWo.nil|apply AW.seq|apply Then.n|apply AW.regL|apply AW.exit|apply InBlk.hit|apply Then.e)|((with_reducible apply AW.condF);exact rfl;(((simp only [zq1, zq2, zq3, zq4, zq5, zq6];first|assumption|omega))))))
  (refine AW.retD (l := [(2, _)]) (by repeat (first | exact trivial | (refine And.intro ⟨rfl, by (exact .int _ _)⟩ ?_))) ?_; (repeat (first | refine Then.r ?_ | refine InBlk.r ?_)))
  exact ⟨_, rfl, rfl, rfl⟩
theorem bl147 {n : Int} : abuild Try.prog 147 [(0, .int .i64 n), (4, .int .i64 (-1))] = some (.agg #[.int .i64 n, .slice none 0 0, .slice none 0 0, .int .i64 0, .int .i64 0, .bool false, .int .i64 (-1)]) := by kernel_rfl
set_option maxRecDepth 100000 in
theorem RNewDisk_bad {m : AM} {n : Int} (hn : ¬ (64 ≤ n ∧ n ≤ 1048576)) : ACall Try.prog 24 #[.int .i64 n] m (Ret (.tuple #[.pointer none, .int .i64 2]) m) := by
 refine ACall.start Try.func24 rfl rfl ?_
 by_cases c : n < 64
 ·(repeat (first|(with_reducible refine AWo.cons ?_)|((with_reducible refine Step.id ?_);first|((with_reducible apply Step.gdF);exact rfl;exact rfl;(((simp only [zq1, zq2, zq3, zq4, zq5, zq6];first|assumption|omega))))|((with_reducible apply Step.move);exact rfl;exact rfl)|((with_reducible apply Step.assign);exact rfl;exact rfl)|((with_reducible apply Step.lss);exact rfl;exact rfl;exact rfl)|((with_reducible apply Step.pickT);exact rfl;exact rfl;exact rfl;exact rfl;(((simp only [zq1, zq2, zq3, zq4, zq5, zq6];first|assumption|omega)))))|(with_reducible first|apply AWo.nil|apply AW.seq|apply Then.n|apply AW.regL)|((with_reducible apply AW.condT);exact rfl;((rfl)))))
  (refine AW.retD (l := [(2, _), (3, _)]) (by repeat (first | exact trivial | (refine And.intro ⟨rfl, by (first | exact .int _ _ | exact Ren.of_g0 rfl)⟩ ?_))) ?_; (repeat (first | refine Then.r ?_ | refine InBlk.r ?_)))
  exact ⟨_, rfl, rfl, rfl⟩
 ·(repeat (first|(with_reducible refine AWo.cons ?_)|((with_reducible refine Step.id ?_);first|((with_reducible apply Step.gdT);exact rfl;exact rfl;(((simp only [zq1, zq2, zq3, zq4, zq5, zq6];first|assumption|omega))))|((with_reducible apply Step.move);exact rfl;exact rfl)|((with_reducible apply Step.assign);exact rfl;exact rfl)|((with_reducible apply Step.lss);exact rfl;exact rfl;exact rfl)|((with_reducible apply Step.gtr);exact rfl;exact rfl;exact rfl)|((with_reducible apply Step.pickF);exact rfl;exact rfl;exact rfl;exact rfl;(((simp only [zq1, zq2, zq3, zq4, zq5, zq6];first|assumption|omega)))))|(with_reducible first|apply AWo.nil|apply AW.seq|apply Then.n|apply AW.regL)|((with_reducible apply AW.condT);exact rfl;(((simp only [zq1, zq2, zq3, zq4, zq5, zq6];first|assumption|omega))))))
  (refine AW.retD (l := [(2, _), (3, _)]) (by repeat (first | exact trivial | (refine And.intro ⟨rfl, by (first | exact .int _ _ | exact Ren.of_g0 rfl)⟩ ?_))) ?_; (repeat (first | refine Then.r ?_ | refine InBlk.r ?_)))
  exact ⟨_, rfl, rfl, rfl⟩
set_option maxRecDepth 100000 in
theorem RNewDisk_ok {m : AM} {n : Nat} (hn : 64 ≤ n ∧ n ≤ 1048576) : ACall Try.prog 24 #[.int .i64 (n : Nat)] m (fun r M => r = .tuple #[.pointer (some ⟨m.length, 0, none⟩), .int .i64 0] ∧ M = m ++ [some { cells := rkd (Dk.new n) (.slice none 0 0) (.slice none 0 0) }]) := by
 have hw1 : (Value.agg #[.int .i64 (n : Nat), .slice none 0 0, .slice none 0 0, .int .i64 0, .int .i64 0, .bool false, .int .i64 (-1)]).cells.all (·.oneCell') = true := by simp [Value.cells, Value.oneCell']
 refine ACall.start Try.func24 rfl rfl ?_
 (repeat (first|(with_reducible refine AWo.cons ?_)|((with_reducible refine Step.id ?_);first|((with_reducible apply Step.gdT);exact rfl;exact rfl;(((simp only [zq1, zq2, zq3, zq4, zq5, zq6];first|assumption|omega))))|((with_reducible apply Step.move);exact rfl;exact rfl)|((with_reducible apply Step.assign);exact rfl;exact rfl)|((with_reducible apply Step.lss);exact rfl;exact rfl;exact rfl)|((with_reducible apply Step.gtr);exact rfl;exact rfl;exact rfl)|((with_reducible apply Step.pickF);exact rfl;exact rfl;exact rfl;exact rfl;(((simp only [zq1, zq2, zq3, zq4, zq5, zq6];first|assumption|omega))))|((with_reducible apply Step.box 0);exact rfl;exact rfl;((first|assumption|exact hw1));exact rfl;((first|(simp only [zq7, zq8, zq9, zq0, iv_set, bv_set, iv_rep, bv_rep] <;> rfl)|rfl)))|((with_reducible apply Step.build);exact rfl;exact bl147;exact rfl))|(with_reducible first|apply AWo.nil|apply AW.seq|apply Then.n|apply AW.regL|apply AW.skip)|((with_reducible apply AW.condF);exact rfl;(((simp only [zq1, zq2, zq3, zq4, zq5, zq6];first|assumption|omega))))))
 (refine AW.ret ?_; (repeat (first | refine Then.r ?_ | refine InBlk.r ?_)))
 exact ⟨_, rfl, rfl, rfl⟩
theorem RDiskAt.new {m : AM} {b0 : Nat} (hb0 : b0 ≤ m.length) {n : Nat} (hn : 64 ≤ n ∧ n ≤ 1048576) (T : AM) : RDiskAt (m ++ [some { cells := rkd (Dk.new n) (.slice none 0 0) (.slice none 0 0) }] ++ T) b0 m.length (Dk.new n) (.slice none 0 0) (.slice none 0 0) :=
 ⟨hb0, by rw [List.append_assoc, List.getElem?_append_right (Nat.le_refl _), Nat.sub_self]; rfl, .nil, .nil, .nil, .nil, fun _ => .inl .nil, ⟨hn.1, hn.2, Nat.zero_le _, Nat.zero_le _, Nat.le_refl _, Nat.le_refl _, Nat.zero_le _⟩⟩
set_option maxHeartbeats 16000000 in
set_option maxRecDepth 100000 in
theorem RFrames_ok {m : AM} {v : Value} {a o : Nat} {l : List UInt8} (h : BytsAt m v a o l) (ha : a < m.length) (hlen : l.length ≤ 100000000) :
  ACall Try.prog 21 #[v] m (More (fun M r => ∃ pv, r = .tuple #[pv, .int .i64 ((frames l).2.length : Nat)] ∧ Pays M m.length pv (frames l).1) m) := by
 refine ACall.start Try.func21 rfl rfl ?_
 (repeat (first|(with_reducible refine AWo.cons ?_)|((with_reducible refine Step.id ?_);((with_reducible apply Step.assign);exact rfl;exact rfl))|(with_reducible first|apply AWo.nil|apply AW.seq|apply Then.n|apply AW.regL|apply AW.block)))
 refine AW.midX 0 (fun t' M => ∃ (v' : Value) (a' o' : Nat) (pv : Value), BytsAt M v' a' o' (frames l).2 ∧ Pays M m.length pv (frames l).1 ∧ (∃ N, M = m ++ N) ∧ All (fun i v => t' i = some v) [(0, v'), (4, pv)]) ?_ ?_
 ·refine AW.loopW (fun q t M => ∃ (v' : Value) (a' o' : Nat) (r : List UInt8) (ps : List (List UInt8)) (pv : Value), q = r.length ∧ r.length ≤ l.length ∧ BytsAt M v' a' o' r ∧ (0 < r.length → a' = a) ∧ Pays M m.length pv ps ∧ (∃ N, M = m ++ N) ∧ ps.length + r.length ≤ l.length ∧ ps ++ (frames r).1 = (frames l).1 ∧ (frames r).2 = (frames l).2 ∧
   t = fr [(0, v'), (4, pv)]) ⟨_, _, (by repeat (first | exact trivial | (refine And.intro rfl ?_))), v, a, o, l, [], .slice none 0 0, rfl, Nat.le_refl _, by rw [List.append_nil]; exact h, fun _ => rfl, .nil, ⟨[], by simp⟩, by simp, rfl, rfl, rfl⟩ ?_
  rintro q t M ⟨v', a', o', r, ps, pv, rfl, hrl, hb, haa, hp, ⟨N, rfl⟩, hcnt, hf1, hf2, rfl⟩
  have hsl := hb.1
  refine AW.rebase ?_
  by_cases h8 : r.length < 8
  ·have hst : frStep r = none := by unfold frStep; rw [if_pos h8]
   rw [frames_none hst] at hf1 hf2
   rw [List.append_nil] at hf1
   simp only at hf2
   (repeat (first|(with_reducible refine AWo.cons ?_)|((with_reducible refine Step.id ?_);first|((with_reducible apply Step.move);exact rfl;exact rfl)|((with_reducible apply Step.geq);exact rfl;exact rfl;exact rfl)|((with_reducible apply Step.len);exact rfl;((assumption));((decide +kernel));exact rfl))|(with_reducible first|apply AWo.nil|apply AW.seq|apply Then.n|apply AW.regL|apply AW.exit|apply Then.e)|((with_reducible apply AW.condF);exact rfl;(((simp only [zq1, zq2, zq3, zq4, zq5, zq6];first|assumption|omega))))))
   refine ⟨rfl, v', a', o', pv, ?_, ?_, ⟨N, by simp⟩, (by repeat (first | exact trivial | (refine And.intro rfl ?_)))⟩
   ·rw [← hf2, List.append_nil]; exact hb
   ·rw [← hf1, List.append_nil]; exact hp
  ·obtain rfl := haa (by omega)
   obtain ⟨c, hc, rfl⟩ : ∃ c, r.length ≤ c ∧ v' = .slice (some ⟨a', o', none⟩) r.length c := by
    rcases hsl with ⟨_, e⟩ | h | ⟨e, _⟩
    ·omega
    ·exact h
    ·omega
   have hbX := hb
   obtain ⟨X, hX⟩ : ∃ X : AM, X = m ++ N := ⟨_, rfl⟩
   have haX : a' < X.length := by rw [hX, List.length_append]; omega
   rw [← hX] at hb hp
   have hXm : ∀ T : AM, ∃ N, X ++ T = m ++ N := fun T => ⟨N ++ T, by rw [hX, List.append_assoc]⟩
   rw [← hX]
   have hn4 := numB_lt4 (l := r.take 4) (by rw [List.length_take]; omega)
   have hg1 := fun T => value_ok ((hb.old T).pre (j := 4) (by omega) hc (by rw [List.length_append]; omega)) (by rw [List.length_take]; omega)
   have hst : frStep r = (if r.length < 8 then none
    else if 65536 < numB (r.take 4) then none
    else if r.length < numB (r.take 4) + 8 then none
    else if numB ((r.drop (4 + numB (r.take 4))).take 4) = crc ((r.drop 4).take (numB (r.take 4))) then some ((r.drop 4).take (numB (r.take 4)), r.drop (8 + numB (r.take 4)))
    else none) := rfl
   rw [if_neg h8] at hst
   have stop : frStep r = none → BytsAt (X ++ []) (.slice (some ⟨a', o', none⟩) r.length c) a' o' (frames l).2 ∧ Pays (X ++ []) m.length pv (frames l).1 := fun h => by
    rw [frames_none h] at hf1 hf2
    rw [List.append_nil] at hf1 ⊢
    simp only at hf2
    rw [← hf1, ← hf2]
    exact ⟨hb, hp⟩
   have e4 : (4 : Int) = ((4 : Nat) : Int) := rfl
   generalize hn : numB (r.take 4) = n at *
   have eN : ((n : Int) + 4) = ((n + 4 : Nat) : Int) := by omega
   have eM : ((n : Int) + 8) = ((n + 8 : Nat) : Int) := by omega
   by_cases c1 : 65536 < n
   ·rw [if_pos c1] at hst
    obtain ⟨s1, s2⟩ := stop hst
    (repeat' (first|(with_reducible refine AWo.cons ?_)|((with_reducible refine Step.id ?_);first|((with_reducible apply Step.gdF);exact rfl;exact rfl;((first|rfl|(simp only [zq1, zq2, zq3, zq4, zq5, zq6];first|assumption|omega))))|((with_reducible apply Step.move);exact rfl;exact rfl)|((with_reducible apply Step.assign);exact rfl;exact rfl)|((with_reducible apply Step.slTo);exact rfl;exact rfl;((assumption));((omega));exact un22;exact sz5;exact rfl)|((with_reducible apply Step.gtr);exact rfl;exact rfl;exact rfl)|((with_reducible apply Step.geq);exact rfl;exact rfl;exact rfl)|((with_reducible apply Step.len);exact rfl;((assumption));((decide +kernel));exact rfl)|((with_reducible apply Step.pickT);exact rfl;exact rfl;exact rfl;exact rfl;((first|rfl|(simp only [zq1, zq2, zq3, zq4, zq5, zq6];first|assumption|omega))))|((with_reducible apply Step.callR fit);exact rfl;exact Try.func75;exact rfl;exact rfl;exact (hg1 _)))|(with_reducible first|apply AWo.nil|apply AW.seq|apply Then.n|apply AW.regL|apply AW.block)|((with_reducible apply AW.drawT fit (T := (.step 0 (.step 1 (.step 2 (.step 3 (.step 4 (.step 5 (.step 6 (.step 7 (.step 8 (.step 9 (.step 10 (.step 11 (.step 12 (.step 13 (.step 14 (.step 17 (.step 18 (.step 19 (.both (.step 15 (.both (.step 16 (.step 20 (.step 21 (.step 22 (.step 23 .done))))) (.step 20 (.step 16 (.step 21 (.step 22 (.step 23 .done))))))) (.step 20 (.step 15 (.step 16 (.step 21 (.step 22 (.step 23 .done)))))))))))))))))))))))))));((decide +kernel)))|((with_reducible apply AWt.step);exact rfl)|(with_reducible first|apply AWt.done|apply AW.exit)|((with_reducible apply InBlk.miss);exact rfl)|(with_reducible first|apply Then.e|apply AW.skip)|((with_reducible apply AW.condT);exact rfl;((first|rfl|(simp only [zq1, zq2, zq3, zq4, zq5, zq6];first|assumption|omega))))|refine AWt.both ?_ ?_))
    all_goals exact ⟨rfl, _, a', o', pv, s1, s2, hXm _, (by repeat (first | exact trivial | (refine And.intro rfl ?_)))⟩
   ·rw [if_neg c1] at hst
    by_cases c2 : r.length < n + 8
    ·rw [if_pos c2] at hst
     obtain ⟨s1, s2⟩ := stop hst
     (repeat' (first|(with_reducible refine AWo.cons ?_)|((with_reducible refine Step.id ?_);first|((with_reducible apply Step.gdT);exact rfl;exact rfl;(((simp only [zq1, zq2, zq3, zq4, zq5, zq6];first|assumption|omega))))|((with_reducible apply Step.gdF);exact rfl;exact rfl;(((simp only [zq1, zq2, zq3, zq4, zq5, zq6];first|assumption|omega))))|((with_reducible apply Step.move);exact rfl;exact rfl)|((with_reducible apply Step.assign);exact rfl;exact rfl)|((with_reducible apply Step.slTo);exact rfl;exact rfl;((assumption));((omega));exact un22;exact sz5;exact rfl)|((with_reducible apply Step.add);exact rfl;exact rfl;((omega));exact rfl)|((with_reducible apply Step.lss);exact rfl;exact rfl;exact rfl)|((with_reducible apply Step.gtr);exact rfl;exact rfl;exact rfl)|((with_reducible apply Step.geq);exact rfl;exact rfl;exact rfl)|((with_reducible apply Step.len);exact rfl;((assumption));((decide +kernel));exact rfl)|((with_reducible apply Step.pickT);exact rfl;exact rfl;exact rfl;exact rfl;(((simp only [zq1, zq2, zq3, zq4, zq5, zq6];first|assumption|omega))))|((with_reducible apply Step.pickF);exact rfl;exact rfl;exact rfl;exact rfl;(((simp only [zq1, zq2, zq3, zq4, zq5, zq6];first|assumption|omega))))|((with_reducible apply Step.callR fit);exact rfl;exact Try.func75;exact rfl;exact rfl;exact (hg1 _)))|(with_reducible first|apply AWo.nil|apply AW.seq|apply Then.n|apply AW.regL|apply AW.block)|((with_reducible apply AW.drawT fit (T := (.step 0 (.step 1 (.step 2 (.step 3 (.step 4 (.step 5 (.step 6 (.step 7 (.step 8 (.step 9 (.step 10 (.step 11 (.step 12 (.step 13 (.step 14 (.step 17 (.step 18 (.step 19 (.both (.step 15 (.both (.step 16 (.step 20 (.step 21 (.step 22 (.step 23 .done))))) (.step 20 (.step 16 (.step 21 (.step 22 (.step 23 .done))))))) (.step 20 (.step 15 (.step 16 (.step 21 (.step 22 (.step 23 .done)))))))))))))))))))))))))));((decide +kernel)))|((with_reducible apply AWt.step);exact rfl)|(with_reducible first|apply AWt.done|apply AW.exit)|((with_reducible apply InBlk.miss);exact rfl)|(with_reducible first|apply Then.e|apply AW.skip)|((with_reducible apply AW.condT);exact rfl;((first|rfl|(simp only [zq1, zq2, zq3, zq4, zq5, zq6];first|assumption|omega))))|refine AWt.both ?_ ?_))
     all_goals exact ⟨rfl, _, a', o', pv, s1, s2, hXm _, (by repeat (first | exact trivial | (refine And.intro rfl ?_)))⟩
    ·rw [if_neg c2] at hst
     have hp1 : ((r.drop (4 + n)).take 4).length = 4 := by rw [List.length_take, List.length_drop]; omega
     have hq1 := numB_lt4 (l := (r.drop (4 + n)).take 4) (by omega)
     have hg2 : ∀ T, ACall Try.prog 75 #[.slice (some ⟨a', o' + (n + 4) * 1, none⟩) (n + 8 - (n + 4)) (c - (n + 4))] (X ++ T) (Ret (.int .i64 (numB ((r.drop (4 + n)).take 4) : Nat)) (X ++ T)) := fun T => by
      have := (hb.old T).part (i := 4 + n) (j := 8 + n) (by omega) (by omega) hc (by rw [List.length_append]; omega)
      rw [show 8 + n - (4 + n) = 4 by omega] at this
      rw [Nat.add_comm n 4, show n + 8 - (4 + n) = 4 by omega]
      exact value_ok this (by rw [hp1]; omega)
     have hpl : ((r.drop 4).take n).length = n := by rw [List.length_take, List.length_drop]; omega
     have hby : ∀ T, Byts (X ++ T) (.slice (some ⟨a', o' + 4 * 1, none⟩) (n + 4 - 4) (c - 4)) ((r.drop 4).take n) := fun T => by
      have := (hb.old T).part (i := 4) (j := 4 + n) (by omega) (by omega) hc (by rw [List.length_append]; omega)
      rw [show 4 + n - 4 = n by omega] at this
      rw [Nat.add_sub_cancel]; exact this
     have hck := fun T => sum_ok (hby T) (by rw [hpl]; omega)
     have hcl := crc_lt ((r.drop 4).take n)
     generalize hP : (r.drop 4).take n = p at *
     generalize hQ : numB ((r.drop (4 + n)).take 4) = z at *
     by_cases c3 : z = crc p
     ·rw [if_pos c3] at hst
      obtain ⟨pc, hpr, hpe⟩ := hp
      have hXl : m.length ≤ X.length := by rw [hX, List.length_append]; omega
      obtain ⟨a1, o1, hs1, hd1⟩ := (hby []).row
      rw [List.append_nil] at hd1
      rw [hpl] at hs1
      rw [frames_some hst] at hf1 hf2
      simp only at hf1 hf2
      have hdl : (r.drop (8 + n)).length = r.length - (8 + n) := List.length_drop
      rw [Nat.add_comm 8 n] at hdl hf1 hf2
      (repeat' (first|(with_reducible refine AWo.cons ?_)|((with_reducible refine Step.id ?_);first|((with_reducible apply Step.gdT);exact rfl;exact rfl;(((simp only [zq1, zq2, zq3, zq4, zq5, zq6];first|assumption|omega))))|((with_reducible apply Step.move);exact rfl;exact rfl)|((with_reducible apply Step.assign);exact rfl;exact rfl)|((with_reducible apply Step.slPart);exact rfl;exact rfl;exact rfl;((assumption));((assumption));((omega));((omega));((omega));exact un22;exact sz5;exact rfl)|((with_reducible apply Step.slTo);exact rfl;exact rfl;((assumption));((omega));exact un22;exact sz5;exact rfl)|((with_reducible apply Step.add);exact rfl;exact rfl;((omega));exact rfl)|((with_reducible apply Step.lss);exact rfl;exact rfl;exact rfl)|((with_reducible apply Step.gtr);exact rfl;exact rfl;exact rfl)|((with_reducible apply Step.geq);exact rfl;exact rfl;exact rfl)|((with_reducible apply Step.neq);exact rfl;exact rfl;exact rfl)|((with_reducible apply Step.len);exact rfl;((assumption));((decide +kernel));exact rfl)|((with_reducible apply Step.pickF);exact rfl;exact rfl;exact rfl;exact rfl;(((simp only [zq1, zq2, zq3, zq4, zq5, zq6];first|assumption|omega))))|((with_reducible apply Step.callR fit);exact rfl;exact Try.func75;exact rfl;exact rfl;exact (hg1 _))|((with_reducible apply Step.callR fit);exact rfl;exact Try.func75;exact rfl;exact rfl;exact (hg2 _))|((with_reducible apply Step.callR fit);exact rfl;exact Try.func76;exact rfl;exact rfl;exact (hck _))|((with_reducible apply Step.buildS 0);exact rfl;exact rfl;exact (fun _ _ => bs22z);exact rfl;((first|(simp only [zq7, zq8, zq9, zq0, iv_set, bv_set, iv_rep, bv_rep] <;> rfl)|rfl))))|(with_reducible first|apply AWo.nil|apply AW.seq|apply Then.n|apply AW.regL|apply AW.block)|((with_reducible apply AW.drawT fit (T := (.step 0 (.step 1 (.step 2 (.step 3 (.step 4 (.step 5 (.step 6 (.step 7 (.step 8 (.step 9 (.step 10 (.step 11 (.step 12 (.step 13 (.step 14 (.step 17 (.step 18 (.step 19 (.both (.step 15 (.both (.step 16 (.step 20 (.step 21 (.step 22 (.step 23 .done))))) (.step 20 (.step 16 (.step 21 (.step 22 (.step 23 .done))))))) (.step 20 (.step 15 (.step 16 (.step 21 (.step 22 (.step 23 .done)))))))))))))))))))))))))));((decide +kernel)))|((with_reducible apply AWt.step);exact rfl)|(with_reducible first|apply AWt.done|apply AW.skip)|((with_reducible apply AW.condT);exact rfl;(((simp only [zq1, zq2, zq3, zq4, zq5, zq6];first|assumption|omega))))|((with_reducible apply AW.condF);exact rfl;(((simp only [zq1, zq2, zq3, zq4, zq5, zq6];first|assumption|omega))))|refine AWt.both ?_ ?_))
      all_goals
       ((with_reducible apply Step.appRow2 (b0 := X.length) (n := 0) (c := []) (new := by8 p));exact rfl;exact rfl;exact (.inr ⟨X.length + 0, .own, 1, by omega, rfl, by rw [get_app];rfl, by simp, .inl rfl⟩);exact hs1;exact (fun h => (hd1 (by omega)).old _);exact el22;exact un22;((rw [by8_len];omega));exact (by8_all _);exact rfl;((omega));exact rfl;((simp)))
       intro u M1 hr1 hml1 hk1 hn1
       rw [List.nil_append, Nat.zero_add] at hr1
       have hu : Row M1 X.length 1 u (by8 p) p.length := by rw [hpl]; exact hr1
       obtain ⟨N1, hN1⟩ := pre_keep (m0 := X) (M := X ++ [some { cells := [] }]) ⟨_, rfl⟩ hml1 fun j hj => hk1 j (by simp; omega) (by intro n' c' e; simp only [Value.slice.injEq, Option.some.injEq, Addr.mk.injEq] at e; omega)
       have hus : SlV u := hu.slv
       have hM1l : X.length ≤ M1.length := by rw [hN1, List.length_append]; omega
       rw [← List.append_nil M1]
       (repeat (first|(with_reducible refine AWo.cons ?_)|((with_reducible refine Step.id ?_);((with_reducible apply Step.buildS 0);exact rfl;exact rfl;exact (fun _ _ => bs27);exact rfl;((first|(simp only [zq7, zq8, zq9, zq0, iv_set, bv_set, iv_rep, bv_rep] <;> rfl)|rfl))))))
       ((with_reducible apply Step.appRow2 (s := 1) (n := ps.length) (xl := 1) (b0 := m.length) (c := pc) (new := [u]));exact rfl;exact rfl;((rw [hN1];exact (hpr.old N1).old _));exact (Sl.mk (Nat.le_refl _));exact (fun _ => RdL.new rfl rfl);exact el27;exact un27;exact rfl;((rw [List.all_cons, hus.one.1];rfl));exact rfl;((omega));exact rfl;((rw [List.length_append];omega)))
       intro pv' M2 hr2 hml2 hk2 hn2
       rw [List.length_append] at hml2
       have hp2 := Pays.push (p := p) hpr hpe ⟨N1 ++ [some { cells := [u] }], by rw [hN1, List.append_assoc]⟩ (hu.old [some { cells := [u] }]) hXl hr2 hk2 hn2
       obtain ⟨N2, hN2⟩ := pre_keep (m0 := m) (M := M1 ++ [some { cells := [u] }]) ⟨N ++ (N1 ++ [some { cells := [u] }]), by rw [hN1, hX]; simp⟩ (by rw [List.length_append]; exact hml2) fun j hj => hk2 j (by rw [List.length_append]; omega) (NotOf.row hpr hj)
       rw [← List.append_nil M2]
       (repeat (first|(with_reducible refine AWo.cons ?_)|((with_reducible refine Step.id ?_);first|((with_reducible apply Step.move);exact rfl;exact rfl)|((with_reducible apply Step.assign);exact rfl;exact rfl)|((with_reducible apply Step.add);exact rfl;exact rfl;((omega));exact rfl))|(with_reducible first|apply AWo.nil|apply Then.n|apply AW.regL)))
       have hb2 : BytsAt (M2 ++ []) (.slice (some ⟨a', o', none⟩) r.length c) a' o' r := by
        rw [List.append_nil, hN2]
        refine BytsAt.old ⟨hbX.1, fun k hk => ?_⟩ N2
        obtain ⟨b, w1, w2⟩ := hbX.2 k hk
        exact ⟨b, by rw [List.getElem?_append_left ha] at w1; exact w1, w2⟩
       ((with_reducible apply Step.restN (l := n + 8));exact rfl;exact rfl;exact eM;((omega));exact hc;exact un22;exact sz5;exact rfl)
       intro a2 o2 ha2 hq2
       have hb3 := hb2.rest (n := n + 8) (M := M2 ++ [] ++ [none]) hc (by omega) (RdS.app _ _) hq2
       (repeat (first|(with_reducible refine AWo.cons ?_)|((with_reducible refine Step.id ?_);((with_reducible apply Step.assign);exact rfl;exact rfl))|(with_reducible first|apply AWo.nil|apply Then.n|apply InBlk.n)))
       exact ⟨_, [(0, .slice (some ⟨a2, o2, none⟩) (r.length - (n + 8)) (c - (n + 8))), (4, pv')], by omega, (by repeat (first | exact trivial | (refine And.intro rfl ?_))), _, a2, o2, r.drop (n + 8), ps ++ [p], pv', hdl.symm, by omega, hb3, fun h0 => (hq2 (by omega)).1, by rw [List.append_nil]; exact hp2.old _, ⟨N2 ++ [none], by rw [hN2]; simp⟩, by rw [List.length_append, List.length_singleton]; omega, by rw [List.append_assoc]; exact hf1, hf2, rfl⟩
     ·rw [if_neg c3] at hst
      obtain ⟨s1, s2⟩ := stop hst
      (repeat' (first|(with_reducible refine AWo.cons ?_)|((with_reducible refine Step.id ?_);first|((with_reducible apply Step.gdT);exact rfl;exact rfl;(((simp only [zq1, zq2, zq3, zq4, zq5, zq6];first|assumption|omega))))|((with_reducible apply Step.move);exact rfl;exact rfl)|((with_reducible apply Step.assign);exact rfl;exact rfl)|((with_reducible apply Step.slPart);exact rfl;exact rfl;exact rfl;((assumption));((assumption));((omega));((omega));((omega));exact un22;exact sz5;exact rfl)|((with_reducible apply Step.slTo);exact rfl;exact rfl;((assumption));((omega));exact un22;exact sz5;exact rfl)|((with_reducible apply Step.add);exact rfl;exact rfl;((omega));exact rfl)|((with_reducible apply Step.lss);exact rfl;exact rfl;exact rfl)|((with_reducible apply Step.gtr);exact rfl;exact rfl;exact rfl)|((with_reducible apply Step.geq);exact rfl;exact rfl;exact rfl)|((with_reducible apply Step.neq);exact rfl;exact rfl;exact rfl)|((with_reducible apply Step.len);exact rfl;((assumption));((decide +kernel));exact rfl)|((with_reducible apply Step.pickF);exact rfl;exact rfl;exact rfl;exact rfl;(((simp only [zq1, zq2, zq3, zq4, zq5, zq6];first|assumption|omega))))|((with_reducible apply Step.callR fit);exact rfl;exact Try.func75;exact rfl;exact rfl;exact (hg1 _))|((with_reducible apply Step.callR fit);exact rfl;exact Try.func75;exact rfl;exact rfl;exact (hg2 _))|((with_reducible apply Step.callR fit);exact rfl;exact Try.func76;exact rfl;exact rfl;exact (hck _)))|(with_reducible first|apply AWo.nil|apply AW.seq|apply Then.n|apply AW.regL|apply AW.block)|((with_reducible apply AW.drawT fit (T := (.step 0 (.step 1 (.step 2 (.step 3 (.step 4 (.step 5 (.step 6 (.step 7 (.step 8 (.step 9 (.step 10 (.step 11 (.step 12 (.step 13 (.step 14 (.step 17 (.step 18 (.step 19 (.both (.step 15 (.both (.step 16 (.step 20 (.step 21 (.step 22 (.step 23 .done))))) (.step 20 (.step 16 (.step 21 (.step 22 (.step 23 .done))))))) (.step 20 (.step 15 (.step 16 (.step 21 (.step 22 (.step 23 .done)))))))))))))))))))))))))));((decide +kernel)))|((with_reducible apply AWt.step);exact rfl)|(with_reducible first|apply AWt.done|apply AW.exit)|((with_reducible apply InBlk.miss);exact rfl)|(with_reducible first|apply Then.e|apply AW.skip)|((with_reducible apply AW.condT);exact rfl;(((simp only [zq1, zq2, zq3, zq4, zq5, zq6];first|assumption|omega))))|refine AWt.both ?_ ?_))
      all_goals exact ⟨rfl, _, a', o', pv, s1, s2, hXm _, (by repeat (first | exact trivial | (refine And.intro rfl ?_)))⟩
 ·rintro t' M ⟨v', a', o', pv, hb, hp, ⟨N, rfl⟩, hsl⟩
  refine InBlk.hit ?_
  refine Then.n ?_
  refine AW.weak (fr_all hsl) ?_
  clear hsl
  refine AW.rebase ?_
  have hs := hb.1
  (repeat (first|(with_reducible refine AWo.cons ?_)|((with_reducible refine Step.id ?_);first|((with_reducible apply Step.move);exact rfl;exact rfl)|((with_reducible apply Step.assign);exact rfl;exact rfl)|((with_reducible apply Step.len);exact rfl;((assumption));((decide +kernel));exact rfl))|(with_reducible first|apply AWo.nil|apply AW.seq|apply Then.n|apply AW.regL)))
  (refine AW.ret ?_; (repeat (first | refine Then.r ?_ | refine InBlk.r ?_)))
  exact ⟨_, rfl, N, by rw [List.append_nil], pv, rfl, by rw [List.append_nil]; exact hp⟩
structure Cont where
 gen : Nat
 snap : List UInt8
 recs : List (List UInt8)
def parseF (l : List UInt8) : Option (Cont × Nat) := match (frames l).1 with
 | h :: s :: recs => if h.length = 12 ∧ 1 ≤ numB (h.take 8) ∧ numB (h.take 8) ≤ 4611686018427387904 ∧ numB (h.drop 8) ≤ recs.length then some (⟨numB (h.take 8), s, recs⟩, (frames l).2.length) else none
 | _ => none
def PaysS (M : AM) (b0 : Nat) (rv : Value) (ps : List (List UInt8)) : Prop := ∃ pc, Seg M b0 1 rv pc ps.length ∧ ∀ k, k < ps.length → ∃ u, pc[k]? = some u ∧ Row M b0 1 u (by8 (ps.getD k [])) (ps.getD k []).length ∧ ∀ j, ¬ NotOf u j → NotB rv j
structure ContAt (M : AM) (b0 : Nat) (sv rv : Value) (c : Cont) : Prop where
 snap : Row M b0 1 sv (by8 c.snap) c.snap.length
 recs : PaysS M b0 rv c.recs
 sep : ∀ j, ¬ NotOf sv j → NotB rv j
theorem PaysS.keep {M M' : AM} {b0 : Nat} {rv : Value} {ps : List (List UInt8)} (h : PaysS M b0 rv ps) (hk : ∀ j b, M[j]? = some (some b) → b0 ≤ j → b.kind.mine = true → M'[j]? = some (some b)) : PaysS M' b0 rv ps := by
 obtain ⟨pc, h1, h2⟩ := h
 refine ⟨pc, h1.keep fun j b hb hn hm => hk j b hb (h1.at_ hn).1 hm, fun k hk' => ?_⟩
 obtain ⟨u, q1, q2, q3⟩ := h2 k hk'
 refine ⟨u, q1, ?_, q3⟩
 rcases q2 with q2 | ⟨a, kd, sz, w1, w2, w3, w4, w5⟩
 ·exact .inl q2
 ·exact .inr ⟨a, kd, sz, w1, w2, hk a _ w3 w1 (by rcases w5 with rfl | ⟨rfl, _⟩ <;> rfl), w4, w5⟩
theorem PaysS.msub {M M' : AM} {b0 : Nat} {rv : Value} {ps : List (List UInt8)} (h : PaysS M b0 rv ps) (hs : MSub M M') : PaysS M' b0 rv ps := h.keep fun j b hb _ hm => hs.get j b hm hb
theorem ContAt.msub {M M' : AM} {b0 : Nat} {sv rv : Value} {c : Cont} (h : ContAt M b0 sv rv c) (hs : MSub M M') : ContAt M' b0 sv rv c := ⟨h.snap.msub hs, h.recs.msub hs, h.sep⟩
theorem PaysS.low {M : AM} {b0 b1 : Nat} {rv : Value} {ps : List (List UInt8)} (h : PaysS M b0 rv ps) (hb : b1 ≤ b0) : PaysS M b1 rv ps := by
 obtain ⟨pc, h1, h2⟩ := h
 refine ⟨pc, ?_, fun k hk => ?_⟩
 ·rcases h1 with h1 | ⟨a, o, kd, sz, cs, w1, w2⟩
  ·exact .inl h1
  ·exact .inr ⟨a, o, kd, sz, cs, by omega, w2⟩
 ·obtain ⟨u, q1, q2, q3⟩ := h2 k hk
  exact ⟨u, q1, q2.low hb, q3⟩
theorem ContAt.low {M : AM} {b0 b1 : Nat} {sv rv : Value} {c : Cont} (h : ContAt M b0 sv rv c) (hb : b1 ≤ b0) : ContAt M b1 sv rv c := ⟨h.snap.low hb, h.recs.low hb, h.sep⟩
theorem PaysS.nil {M : AM} {b0 : Nat} : PaysS M b0 (.slice none 0 0) [] := ⟨[], Seg.nil, fun k hk => absurd hk (Nat.not_lt_zero _)⟩
theorem Pays.tail {M M' : AM} {b0 : Nat} {pv rv : Value} {h s : List UInt8} {rs : List (List UInt8)} {pc : List Value} (hr : Row M b0 1 pv pc (h :: s :: rs).length) (he : ∀ k, k < (h :: s :: rs).length → ∃ u, pc[k]? = some u ∧ Row M b0 1 u (by8 ((h :: s :: rs).getD k [])) ((h :: s :: rs).getD k []).length ∧ ∀ j, ¬ NotOf u j → NotOf pv j)
  (h2 : Seg M' b0 1 rv (pc.drop (2 * 1)) ((h :: s :: rs).length - 2)) (hk : ∀ j, j < M.length → NotOf pv j → M'[j]? = M[j]?) (hn : ∀ j, NotOf pv j → NotB rv j) : PaysS M' b0 rv rs ∧ ∃ sv, pc[1]? = some sv ∧ Row M' b0 1 sv (by8 s) s.length ∧ ∀ j, ¬ NotOf sv j → NotB rv j := by
 refine ⟨⟨pc.drop 2, h2, fun k hk' => ?_⟩, ?_⟩
 ·obtain ⟨u, q1, q2, q3⟩ := he (k + 2) (by simp; omega)
  refine ⟨u, by rw [List.getElem?_drop, Nat.add_comm]; exact q1, ?_, fun j hj => hn j (q3 j hj)⟩
  exact Row.keep q2 fun j hj hnj => hk j hj (q3 j hnj)
 ·obtain ⟨u, q1, q2, q3⟩ := he 1 (by simp)
  exact ⟨u, q1, Row.keep q2 fun j hj hnj => hk j hj (q3 j hnj), fun j hj => hn j (q3 j hj)⟩
theorem ze124 : zeroB Try.prog 124 = some #[.int .i64 0, .slice none 0 0, .slice none 0 0] := by kernel_rfl
theorem sz124 : szB Try.prog 124 = some 3 := by kernel_rfl
theorem bl124z : abuild Try.prog 124 [] = some (.agg #[.int .i64 0, .slice none 0 0, .slice none 0 0]) := by kernel_rfl
theorem bl124 {g : Int} {a b : Value} (ha : SlV a := by assumption) (hb : SlV b := by assumption) : abuild Try.prog 124 [(0, .int .i64 g), (1, a), (2, b)] = some (.agg #[.int .i64 g, a, b]) := by
 rcases ha with rfl | ⟨_, _, _, rfl⟩ <;> rcases hb with rfl | ⟨_, _, _, rfl⟩ <;> kernel_rfl
theorem Seg.slv {M : AM} {b0 s : Nat} {u : Value} {c : List Value} {n : Nat} (h : Seg M b0 s u c n) : SlV u := by
 rcases h with ⟨rfl, _⟩ | ⟨a, o, kd, sz, cs, _, rfl, _⟩
 ·exact .inl rfl
 ·exact .inr ⟨_, _, _, rfl⟩
theorem ares_cell3 {P : Program} {fn : Func} {t : Fm} {m : AM} {a b d i n : Nat} {ty : TypeId} {c : List Value} {x y : Value} (hr : fn.results = #[.cell a ty, .tmp b, .tmp d]) (ht : t a = some (.pointer (some ⟨i, 0, none⟩))) (hx : t b = some x) (hy : t d = some y) (hg : aggB P ty = some true) (hn : szB P ty = some n) (h1 : RdL m i 0 c) (h3 : c.length = n) (hn1 : Nat.blt 0 n = true) :
  ares P fn t m = some (.tuple #[.agg c.toArray, x, y]) := by
 have hL : aresL P t m fn.results.toList = some [.agg c.toArray, x, y] := by rw [hr]; simp only [aresL, ares1, ht, hx, hy, aload_cell hg hn h1 h3 hn1]
 unfold ares
 rw [hL]
theorem RdL.blk {M : AM} {i : Nat} {b : Blk} (h : M[i]? = some (some b)) : RdL M i 0 b.cells := ⟨b, h, fun j v hv => by rw [Nat.zero_add]; exact hv⟩
theorem numB_cons (x : UInt8) (l : List UInt8) : numB (x :: l) = x.toNat * 2 ^ (8 * l.length) + numB l := by
 have := fold_eq l x.toNat
 unfold numB
 rw [List.foldl_cons, Nat.zero_mul, Nat.zero_add]
 exact this
theorem numB_top {l : List UInt8} (hl : l.length = 8) : (64 < (l.getD 0 0).toNat → 4611686018427387904 < numB l) ∧ ((l.getD 0 0).toNat ≤ 64 → numB l ≤ 9223372036854775807) := by
 obtain ⟨x, r, rfl⟩ : ∃ x r, l = x :: r := by
  cases l with
  | nil => simp at hl
  | cons x r => exact ⟨x, r, rfl⟩
 have hr : r.length = 7 := by simpa using hl
 have h1 := numB_cons x r
 have h2 := numB_lt r
 rw [hr] at h1 h2
 rw [show (2 : Nat) ^ (8 * 7) = 72057594037927936 by decide] at h1 h2
 rw [List.getD_cons_zero]
 omega
def ParQ (l : List UInt8) (b0 : Nat) (r : Value) (M : AM) : Prop :=
 (parseF l = none ∧ r = .tuple #[.agg #[.int .i64 0, .slice none 0 0, .slice none 0 0], .bool false, .bool false]) ∨ ∃ c n sv rv, parseF l = some (c, n) ∧ r = .tuple #[.agg #[.int .i64 (c.gen : Nat), sv, rv], .bool true, .bool (decide (0 < n))] ∧ ContAt M b0 sv rv c
set_option maxHeartbeats 16000000 in
set_option maxRecDepth 100000 in
theorem parse_ok {m : AM} {v : Value} {a o : Nat} {l : List UInt8} (h : BytsAt m v a o l) (ha : a < m.length) (hlen : l.length ≤ 100000000) :
  ACall Try.prog 117 #[v] m (fun r M => ParQ l m.length r M ∧ ∃ N, M = m ++ N) := by
 refine ACall.start Try.func117 rfl rfl ?_
 (repeat (first|(with_reducible refine AWo.cons ?_)|((with_reducible refine Step.id ?_);first|((with_reducible apply Step.move);exact rfl;exact rfl)|((with_reducible apply Step.assign);exact rfl;exact rfl)|((with_reducible apply Step.alloc 0);exact rfl;exact ze124;exact rfl;((first|(simp only [zq7, zq8, zq9, zq0, iv_set, bv_set, iv_rep, bv_rep] <;> rfl)|rfl))))|(with_reducible first|apply AWo.nil|apply AW.seq|apply Then.n|apply AW.regL)))
 ((with_reducible apply Step.callX fit);exact rfl;exact Try.func18;exact rfl;exact rfl;exact (Frames_ok (h.old _) (by rw [List.length_append];omega) hlen))
 rintro r1 M1 ⟨N1, hN1⟩ ⟨pv, rfl, pc, hpr, hpe⟩
 rw [List.length_append, List.length_singleton] at hpr hpe
 have hM1 : M1[m.length + 0]? = some (some { cells := [.int .i64 0, .slice none 0 0, .slice none 0 0] }) := by rw [hN1, List.append_assoc, Nat.add_zero, List.getElem?_append_right (Nat.le_refl _), Nat.sub_self]; rfl
 have hM1l : m.length + 1 ≤ M1.length := by rw [hN1]; simp only [List.length_append, List.length_singleton]; omega
 obtain ⟨N1', hN1'⟩ : ∃ N, M1 = m ++ N := ⟨_, by rw [hN1, List.append_assoc]⟩
 obtain ⟨ap, hps, hpa, hpd⟩ := hpr.sl (by omega)
 have hpar : parseF l = (match (frames l).1 with
  | h :: s :: recs => if h.length = 12 ∧ 1 ≤ numB (h.take 8) ∧ numB (h.take 8) ≤ 4611686018427387904 ∧ numB (h.drop 8) ≤ recs.length then some (⟨numB (h.take 8), s, recs⟩, (frames l).2.length) else none
  | _ => none) := rfl
 generalize (frames l).2.length = q at *
 generalize (frames l).1 = ps at *
 unfold ParQ
 by_cases c2 : ps.length < 2
 ·have hnone : parseF l = none := by
   rw [hpar]
   match ps, c2 with
   | [], _ => rfl
   | [_], _ => rfl
  (repeat (first|(with_reducible refine AWo.cons ?_)|((with_reducible refine Step.id ?_);first|((with_reducible apply Step.gdF);exact rfl;exact rfl;(((simp only [zq1, zq2, zq3, zq4, zq5, zq6];first|assumption|omega))))|((with_reducible apply Step.move);exact rfl;exact rfl)|((with_reducible apply Step.assign);exact rfl;exact rfl)|((with_reducible apply Step.lss);exact rfl;exact rfl;exact rfl)|((with_reducible apply Step.len);exact rfl;((assumption));((decide +kernel));exact rfl)|((with_reducible apply Step.extract);exact rfl;exact rfl;exact rfl)|((with_reducible apply Step.pickT);exact rfl;exact rfl;exact rfl;exact rfl;(((simp only [zq1, zq2, zq3, zq4, zq5, zq6];first|assumption|omega))))|((with_reducible apply Step.build);exact rfl;exact bl124z;exact rfl))|(with_reducible first|apply AWo.nil|apply AW.seq|apply Then.n|apply AW.regL)|((with_reducible apply AW.condT);exact rfl;((rfl)))))
  ((with_reducible apply Step.storeL (n := 3) (v := [.int .i64 0, .slice none 0 0, .slice none 0 0]));exact rfl;exact rfl;exact (get_old [] hM1);exact rfl;exact sz124;exact rfl;exact rfl;((decide)))
  (repeat (first|(with_reducible refine AWo.cons ?_)|((with_reducible refine Step.id ?_);((with_reducible apply Step.assign);exact rfl;exact rfl))|(with_reducible first|apply AWo.nil|apply Then.n)))
  (refine AW.ret ?_; (repeat (first | refine Then.r ?_ | refine InBlk.r ?_)))
  refine ⟨_, ares_cell3 rfl rfl rfl rfl (by decide +kernel) sz124 (RdL.blk (List.getElem?_set_self (by rw [List.length_append]; omega))) rfl rfl, .inl ⟨hnone, rfl⟩, ?_⟩
  rw [hN1', List.append_nil]
  exact set_high (by omega) _
 ·obtain ⟨h, s, rs, rfl⟩ : ∃ h s rs, ps = h :: s :: rs := by
   match ps, c2 with
   | [], c => exact absurd (by simp) c
   | [_], c => exact absurd (by simp) c
   | h :: s :: rs, _ => exact ⟨h, s, rs, rfl⟩
  ·skip
   obtain ⟨uh, e1, e2, e3⟩ := hpe 0 (by simp)
   change Row M1 _ 1 uh (by8 h) h.length at e2
   have hlen0 : (h :: s :: rs).length = rs.length + 2 := rfl
   have rd0 : ∀ T, Rd (M1 ++ T) ap 0 uh := fun T => Rd.old T (by
    obtain ⟨b, w1, w2⟩ := hpd (by omega)
    have := w2 0 uh e1
    exact ⟨b, w1, this⟩)
   obtain ⟨ah, hhs, hha, hhd⟩ := e2.sl (by omega)
   by_cases c12 : h.length = 12
   ·clear hhs hhd hha
    obtain ⟨ah, kdh, szh, _, hha, huh, hhc⟩ := e2.pos (by omega)
    rw [c12] at huh
    have hbA : BytsAt M1 uh ah 0 h := ⟨by rw [huh, c12]; exact Sl.mk (Nat.le_refl _), fun k hk => ⟨_, hhc, by rw [Nat.zero_add, by8_get hk]; simp [hk]⟩⟩
    subst huh
    have hbA' : BytsAt M1 (.slice (some ⟨ah, 0, none⟩) h.length 12) ah 0 h := by rw [c12]; exact hbA
    have e8 : (8 : Int) = ((8 : Nat) : Int) := rfl
    have ht8 : (h.take 8).length = 8 := by rw [List.length_take]; omega
    have hd8 : (h.drop 8).length = 4 := by rw [List.length_drop]; omega
    have hg8 := fun T => get8_ok ((hbA'.old T).pre (j := 8) (by omega) (by omega) (by rw [List.length_append]; omega)) ht8
    have hg4 := fun T => get_ok (by have := (hbA'.old T).part (i := 8) (j := 12) (by omega) (by omega) (by omega) (by rw [List.length_append]; omega); rw [List.take_of_length_le (by omega)] at this; exact this) (by rw [hd8]; omega)
    have hk4 := numB_lt4 (l := h.drop 8) (by omega)
    obtain ⟨ht1, ht2⟩ := numB_top ht8
    have hx0 : (h.take 8).getD 0 0 = h.getD 0 0 := by
     simp only [List.getD_eq_getElem?_getD]
     rw [List.getElem?_take, if_pos (by omega)]
    rw [hx0] at ht1 ht2
    have r00 : ∀ T, Rd (M1 ++ T) ah 0 (.int .u8 ((h.getD 0 0).toNat : Nat)) := fun T => Rd.old T (hbA.2 0 (by omega))
    have hx8 := (h.getD 0 0).toNat_lt
    have hg8v : g8 (h.take 8) = if numB (h.take 8) ≤ 9223372036854775807 then ((numB (h.take 8) : Nat) : Int) else g8 (h.take 8) := by
     by_cases c : numB (h.take 8) ≤ 9223372036854775807
     ·rw [if_pos c, g8, if_pos c]
     ·rw [if_neg c]
    rw [hlen0] at hps
    have hpar' : parseF l = if 1 ≤ numB (h.take 8) ∧ numB (h.take 8) ≤ 4611686018427387904 ∧ numB (h.drop 8) ≤ rs.length then some (⟨numB (h.take 8), s, rs⟩, q) else none := by
     rw [hpar]
     simp only [c12, true_and]
    generalize numB (h.drop 8) = k at *
    generalize (h.getD 0 0).toNat = x0 at *
    generalize numB (h.take 8) = g at *
    generalize g8 (h.take 8) = gz at *
    (repeat (first|(with_reducible refine AWo.cons ?_)|((with_reducible refine Step.id ?_);first|((with_reducible apply Step.gdT);exact rfl;exact rfl;((rfl)))|((with_reducible apply Step.move);exact rfl;exact rfl)|((with_reducible apply Step.assign);exact rfl;exact rfl)|((with_reducible apply Step.load);exact rfl;((decide +kernel));exact rfl;((exact rd0 _)))|((with_reducible apply Step.ix1 (k := 0));exact rfl;((assumption));exact rfl;((decide +kernel));exact rfl;((omega)))|((with_reducible apply Step.lss);exact rfl;exact rfl;exact rfl)|((with_reducible apply Step.neq);exact rfl;exact rfl;exact rfl)|((with_reducible apply Step.len);exact rfl;((first|assumption|exact Sl.mk (by omega)));((decide +kernel));exact rfl)|((with_reducible apply Step.extract);exact rfl;exact rfl;exact rfl)|((with_reducible apply Step.pickF);exact rfl;exact rfl;exact rfl;exact rfl;((rfl))))|(with_reducible apply AWo.nil)|((fail_if_success (with_reducible refine AW.atR (id := 4) ?_));(with_reducible apply AW.seq))|(with_reducible first|apply Then.n|apply AW.regL|apply AW.skip)|((with_reducible apply AW.condF);exact rfl;((rfl)))))
    refine AW.seq ?_
    refine AW.join (fun t' M' => M' = M1 ++ [] ∧ All (fun i v => t' i = some v) [(2, .pointer (some ⟨m.length + 0, 0, none⟩)), (5, pv), (6, .int .i64 (q : Nat)), (7, .int .i64 gz), (8, .int .i64 (k : Nat))]) ?_ ?_
    ·(repeat' (first|((with_reducible refine Step.id ?_);first|((with_reducible apply Step.move);exact rfl;exact rfl)|((with_reducible apply Step.assign);exact rfl;exact rfl)|((with_reducible apply Step.load);exact rfl;((decide +kernel));exact rfl;((exact rd0 _)))|((with_reducible apply Step.ix1 (k := 0));exact rfl;((assumption));exact rfl;((decide +kernel));exact rfl;((omega)))|((with_reducible apply Step.slFrom);exact rfl;exact rfl;((assumption));((omega));((omega));((omega));exact un22;exact sz5;exact rfl)|((with_reducible apply Step.slTo);exact rfl;exact rfl;((assumption));((omega));exact un22;exact sz5;exact rfl)|((with_reducible apply Step.callR fit);exact rfl;exact Try.func71;exact rfl;exact rfl;exact (hg8 _))|((with_reducible apply Step.callR fit);exact rfl;exact Try.func71;exact rfl;exact rfl;exact (hg4 _)))|(with_reducible apply Then.n)|((with_reducible apply AW.drawT fit (T := (.step 0 (.step 1 (.step 5 (.step 6 (.both (.step 2 (.step 3 (.both (.step 4 (.step 7 (.step 8 (.step 9 (.step 10 (.step 11 .done)))))) (.step 7 (.both (.step 4 (.step 8 (.step 9 (.step 10 (.step 11 .done))))) (.step 8 (.step 4 (.step 9 (.step 10 (.step 11 .done)))))))))) (.step 7 (.both (.step 2 (.step 3 (.both (.step 4 (.step 8 (.step 9 (.step 10 (.step 11 .done))))) (.step 8 (.step 4 (.step 9 (.step 10 (.step 11 .done)))))))) (.step 8 (.step 2 (.step 3 (.step 4 (.step 9 (.step 10 (.step 11 .done))))))))))))))));((decide +kernel)))|((with_reducible apply AWt.step);exact rfl)|(with_reducible apply AWt.done)|refine AWt.both ?_ ?_))
     all_goals exact ⟨rfl, (by repeat (first | exact trivial | (refine And.intro rfl ?_)))⟩
    ·rintro t' M' ⟨rfl, hsl⟩
     refine AW.weak (fr_all hsl) ?_
     clear hsl
     by_cases x1 : 64 < x0
     ·have hnone : parseF l = none := by rw [hpar']; exact if_neg fun e => by have := ht1 x1; omega
      (repeat (first|(with_reducible refine AWo.cons ?_)|((with_reducible refine Step.id ?_);first|((with_reducible apply Step.gdF);exact rfl;exact rfl;((first|rfl|(simp only [zq1, zq2, zq3, zq4, zq5, zq6];first|assumption|omega))))|((with_reducible apply Step.move);exact rfl;exact rfl)|((with_reducible apply Step.load);exact rfl;((decide +kernel));exact rfl;((first|exact rd0 _|exact r00 _)))|((with_reducible apply Step.ix1 (k := 0));exact rfl;((first|assumption|exact Sl.mk (by omega)));exact rfl;((decide +kernel));exact rfl;((omega)))|((with_reducible apply Step.gtr);exact rfl;exact rfl;exact rfl)|((with_reducible apply Step.pickT);exact rfl;exact rfl;exact rfl;exact rfl;((first|rfl|(simp only [zq1, zq2, zq3, zq4, zq5, zq6];first|assumption|omega))))|((with_reducible apply Step.build);exact rfl;exact bl124z;exact rfl))|(with_reducible first|apply AWo.nil|apply AW.seq|apply Then.n|apply AW.regL)|((with_reducible apply AW.condT);exact rfl;((rfl)))))
      ((with_reducible apply Step.storeL (n := 3) (v := [.int .i64 0, .slice none 0 0, .slice none 0 0]));exact rfl;exact rfl;exact (get_old [] hM1);exact rfl;exact sz124;exact rfl;exact rfl;((decide)))
      (repeat (first|(with_reducible refine AWo.cons ?_)|((with_reducible refine Step.id ?_);((with_reducible apply Step.assign);exact rfl;exact rfl))|(with_reducible first|apply AWo.nil|apply Then.n)))
      (refine AW.ret ?_; (repeat (first | refine Then.r ?_ | refine InBlk.r ?_)))
      refine ⟨_, ares_cell3 rfl rfl rfl rfl (by decide +kernel) sz124 (RdL.blk (List.getElem?_set_self (by rw [List.length_append]; omega))) rfl rfl, .inl ⟨hnone, rfl⟩, ?_⟩
      rw [hN1', List.append_nil]
      exact set_high (by omega) _
     ·have hgz : gz = (g : Nat) := by rw [hg8v, if_pos (ht2 (by omega))]
      subst hgz
      by_cases x2 : g < 1
      ·have hnone : parseF l = none := by rw [hpar']; exact if_neg fun e => by omega
       (repeat (first|(with_reducible refine AWo.cons ?_)|((with_reducible refine Step.id ?_);first|((with_reducible apply Step.gdT);exact rfl;exact rfl;(((simp only [zq1, zq2, zq3, zq4, zq5, zq6];first|assumption|omega))))|((with_reducible apply Step.gdF);exact rfl;exact rfl;((first|rfl|(simp only [zq1, zq2, zq3, zq4, zq5, zq6];first|assumption|omega))))|((with_reducible apply Step.move);exact rfl;exact rfl)|((with_reducible apply Step.load);exact rfl;((decide +kernel));exact rfl;((first|exact rd0 _|exact r00 _)))|((with_reducible apply Step.ix1 (k := 0));exact rfl;((first|assumption|exact Sl.mk (by omega)));exact rfl;((decide +kernel));exact rfl;((omega)))|((with_reducible apply Step.lss);exact rfl;exact rfl;exact rfl)|((with_reducible apply Step.gtr);exact rfl;exact rfl;exact rfl)|((with_reducible apply Step.pickT);exact rfl;exact rfl;exact rfl;exact rfl;((first|rfl|(simp only [zq1, zq2, zq3, zq4, zq5, zq6];first|assumption|omega))))|((with_reducible apply Step.pickF);exact rfl;exact rfl;exact rfl;exact rfl;(((simp only [zq1, zq2, zq3, zq4, zq5, zq6];first|assumption|omega))))|((with_reducible apply Step.build);exact rfl;exact bl124z;exact rfl))|(with_reducible first|apply AWo.nil|apply AW.seq|apply Then.n|apply AW.regL)|((with_reducible apply AW.condT);exact rfl;((rfl)))))
       ((with_reducible apply Step.storeL (n := 3) (v := [.int .i64 0, .slice none 0 0, .slice none 0 0]));exact rfl;exact rfl;exact (get_old [] hM1);exact rfl;exact sz124;exact rfl;exact rfl;((decide)))
       (repeat (first|(with_reducible refine AWo.cons ?_)|((with_reducible refine Step.id ?_);((with_reducible apply Step.assign);exact rfl;exact rfl))|(with_reducible first|apply AWo.nil|apply Then.n)))
       (refine AW.ret ?_; (repeat (first | refine Then.r ?_ | refine InBlk.r ?_)))
       refine ⟨_, ares_cell3 rfl rfl rfl rfl (by decide +kernel) sz124 (RdL.blk (List.getElem?_set_self (by rw [List.length_append]; omega))) rfl rfl, .inl ⟨hnone, rfl⟩, ?_⟩
       rw [hN1', List.append_nil]
       exact set_high (by omega) _
      ·by_cases x3 : 4611686018427387904 < g
       ·have hnone : parseF l = none := by rw [hpar']; exact if_neg fun e => by omega
        (repeat (first|(with_reducible refine AWo.cons ?_)|((with_reducible refine Step.id ?_);first|((with_reducible apply Step.gdT);exact rfl;exact rfl;(((simp only [zq1, zq2, zq3, zq4, zq5, zq6];first|assumption|omega))))|((with_reducible apply Step.gdF);exact rfl;exact rfl;(((simp only [zq1, zq2, zq3, zq4, zq5, zq6];first|assumption|omega))))|((with_reducible apply Step.move);exact rfl;exact rfl)|((with_reducible apply Step.load);exact rfl;((decide +kernel));exact rfl;((first|exact rd0 _|exact r00 _)))|((with_reducible apply Step.ix1 (k := 0));exact rfl;((first|assumption|exact Sl.mk (by omega)));exact rfl;((decide +kernel));exact rfl;((omega)))|((with_reducible apply Step.lss);exact rfl;exact rfl;exact rfl)|((with_reducible apply Step.gtr);exact rfl;exact rfl;exact rfl)|((with_reducible apply Step.pickT);exact rfl;exact rfl;exact rfl;exact rfl;(((simp only [zq1, zq2, zq3, zq4, zq5, zq6];first|assumption|omega))))|((with_reducible apply Step.pickF);exact rfl;exact rfl;exact rfl;exact rfl;(((simp only [zq1, zq2, zq3, zq4, zq5, zq6];first|assumption|omega))))|((with_reducible apply Step.build);exact rfl;exact bl124z;exact rfl))|(with_reducible first|apply AWo.nil|apply AW.seq|apply Then.n|apply AW.regL)|((with_reducible apply AW.condT);exact rfl;((rfl)))))
        ((with_reducible apply Step.storeL (n := 3) (v := [.int .i64 0, .slice none 0 0, .slice none 0 0]));exact rfl;exact rfl;exact (get_old [] hM1);exact rfl;exact sz124;exact rfl;exact rfl;((decide)))
        (repeat (first|(with_reducible refine AWo.cons ?_)|((with_reducible refine Step.id ?_);((with_reducible apply Step.assign);exact rfl;exact rfl))|(with_reducible first|apply AWo.nil|apply Then.n)))
        (refine AW.ret ?_; (repeat (first | refine Then.r ?_ | refine InBlk.r ?_)))
        refine ⟨_, ares_cell3 rfl rfl rfl rfl (by decide +kernel) sz124 (RdL.blk (List.getElem?_set_self (by rw [List.length_append]; omega))) rfl rfl, .inl ⟨hnone, rfl⟩, ?_⟩
        rw [hN1', List.append_nil]
        exact set_high (by omega) _
       ·by_cases x4 : rs.length < k
        ·have hnone : parseF l = none := by rw [hpar']; exact if_neg fun e => by omega
         (repeat (first|(with_reducible refine AWo.cons ?_)|((with_reducible refine Step.id ?_);first|((with_reducible apply Step.gdT);exact rfl;exact rfl;(((simp only [zq1, zq2, zq3, zq4, zq5, zq6];first|assumption|omega))))|((with_reducible apply Step.move);exact rfl;exact rfl)|((with_reducible apply Step.load);exact rfl;((decide +kernel));exact rfl;((first|exact rd0 _|exact r00 _)))|((with_reducible apply Step.ix1 (k := 0));exact rfl;((first|assumption|exact Sl.mk (by omega)));exact rfl;((decide +kernel));exact rfl;((omega)))|((with_reducible apply Step.add);exact rfl;exact rfl;((omega));exact rfl)|((with_reducible apply Step.lss);exact rfl;exact rfl;exact rfl)|((with_reducible apply Step.gtr);exact rfl;exact rfl;exact rfl)|((with_reducible apply Step.len);exact rfl;((assumption));((decide +kernel));exact rfl)|((with_reducible apply Step.pickF);exact rfl;exact rfl;exact rfl;exact rfl;(((simp only [zq1, zq2, zq3, zq4, zq5, zq6];first|assumption|omega))))|((with_reducible apply Step.build);exact rfl;exact bl124z;exact rfl))|(with_reducible first|apply AWo.nil|apply AW.seq|apply Then.n|apply AW.regL)|((with_reducible apply AW.condT);exact rfl;(((simp only [zq1, zq2, zq3, zq4, zq5, zq6];first|assumption|omega))))))
         ((with_reducible apply Step.storeL (n := 3) (v := [.int .i64 0, .slice none 0 0, .slice none 0 0]));exact rfl;exact rfl;exact (get_old [] hM1);exact rfl;exact sz124;exact rfl;exact rfl;((decide)))
         (repeat (first|(with_reducible refine AWo.cons ?_)|((with_reducible refine Step.id ?_);((with_reducible apply Step.assign);exact rfl;exact rfl))|(with_reducible first|apply AWo.nil|apply Then.n)))
         (refine AW.ret ?_; (repeat (first | refine Then.r ?_ | refine InBlk.r ?_)))
         refine ⟨_, ares_cell3 rfl rfl rfl rfl (by decide +kernel) sz124 (RdL.blk (List.getElem?_set_self (by rw [List.length_append]; omega))) rfl rfl, .inl ⟨hnone, rfl⟩, ?_⟩
         rw [hN1', List.append_nil]
         exact set_high (by omega) _
        ·have hsome : parseF l = some (⟨g, s, rs⟩, q) := by rw [hpar']; exact if_pos ⟨by omega, by omega, by omega⟩
         obtain ⟨sv, f1, _, _⟩ := hpe 1 (by simp)
         have rd1 : ∀ T, Rd (M1 ++ T) ap 1 sv := fun T => Rd.old T (by
          obtain ⟨b, w1, w2⟩ := hpd (by omega)
          have := w2 1 sv f1
          exact ⟨b, w1, this⟩)
         (repeat' (first|(with_reducible refine AWo.cons ?_)|((with_reducible refine Step.id ?_);first|((with_reducible apply Step.gdT);exact rfl;exact rfl;(((simp only [zq1, zq2, zq3, zq4, zq5, zq6];first|assumption|omega))))|((with_reducible apply Step.move);exact rfl;exact rfl)|((with_reducible apply Step.load);exact rfl;((decide +kernel));exact rfl;((first|exact rd0 _|exact r00 _|exact rd1 _)))|((with_reducible apply Step.ix1 (k := 0));exact rfl;((first|assumption|exact Sl.mk (by omega)));exact rfl;((decide +kernel));exact rfl;((omega)))|((with_reducible apply Step.ix1 (k := 1));exact rfl;((assumption));exact rfl;((decide +kernel));exact rfl;((omega)))|((with_reducible apply Step.add);exact rfl;exact rfl;((omega));exact rfl)|((with_reducible apply Step.lss);exact rfl;exact rfl;exact rfl)|((with_reducible apply Step.gtr);exact rfl;exact rfl;exact rfl)|((with_reducible apply Step.len);exact rfl;((assumption));((decide +kernel));exact rfl)|((with_reducible apply Step.pickF);exact rfl;exact rfl;exact rfl;exact rfl;(((simp only [zq1, zq2, zq3, zq4, zq5, zq6];first|assumption|omega)))))|(with_reducible first|apply AWo.nil|apply AW.seq|apply Then.n|apply AW.regL)|((with_reducible apply AW.drawT fit (T := (.step 0 (.step 1 (.step 2 (.step 4 (.step 7 (.step 8 (.both (.step 3 (.step 5 (.step 6 (.step 9 (.step 10 (.step 11 .done)))))) (.step 5 (.step 3 (.step 6 (.step 9 (.step 10 (.step 11 .done)))))))))))))));((decide +kernel)))|((with_reducible apply AWt.step);exact rfl)|(with_reducible apply AW.skip)|((with_reducible apply AW.condF);exact rfl;(((simp only [zq1, zq2, zq3, zq4, zq5, zq6];first|assumption|omega))))|refine AWt.both ?_ ?_))
         all_goals
          ((with_reducible apply Step.tailN (l := 2) (b0 := m.length + 1) (n := rs.length + 2) (c := pc));exact rfl;exact rfl;exact (hpr.old []);((omega));exact rfl;((omega));exact un27;exact sz22d;exact rfl)
          intro rv M2 hsg hml2 hk2 hnb hrs
          rw [List.append_nil] at hml2 hk2 hrs
          have hssv : SlV sv := by
           obtain ⟨u, w1, w2, _⟩ := hpe 1 (by simp)
           rw [f1] at w1; injection w1 with w1; subst w1
           exact w2.slv
          have hsrv := hsg.slv
          have hon : ([.int .i64 (g : Nat), sv, rv] : List Value).all (·.oneCell') = true := by rw [List.all_cons, List.all_cons, List.all_cons, hssv.one.1, hsrv.one.1]; rfl
          obtain ⟨hrec, sv2, w1, hsn, hsep⟩ := Pays.tail hpr hpe hsg hk2 hnb
          rw [f1] at w1; injection w1 with w1; subst w1
          have rd2 : ∀ T, Rd (M2 ++ T) ap 1 sv := fun T => Rd.old T (hrs _ _ _ (by have := rd1 []; rwa [List.append_nil] at this))
          have hM2 : M2[m.length + 0]? = some (some { cells := [.int .i64 0, .slice none 0 0, .slice none 0 0] }) := by rw [hk2 _ (by omega) (NotOf.row hpr (by omega))]; exact hM1
          obtain ⟨N2, hN2⟩ := pre_keep (m0 := m) (M := M1) ⟨N1', hN1'⟩ hml2 fun j hj => hk2 j (by omega) (NotOf.row hpr (by omega))
          rw [← List.append_nil M2]
          (repeat' (first|((with_reducible refine Step.id ?_);first|((with_reducible apply Step.load);exact rfl;((decide +kernel));exact rfl;((exact rd2 _)))|((with_reducible apply Step.build);exact rfl;exact bl124;exact rfl))|((with_reducible apply AWt.step);exact rfl)))
          ((with_reducible apply Step.storeL (n := 3) (v := [.int .i64 (g : Nat), sv, rv]));exact rfl;exact rfl;exact (get_old [] hM2);exact rfl;exact sz124;exact rfl;exact hon;((show 0 + 3 ≤ 3;omega)))
          (repeat' (first|((with_reducible refine Step.id ?_);((with_reducible apply Step.assign);exact rfl;exact rfl))|(with_reducible apply Then.n)|((with_reducible apply AWt.step);exact rfl)|(with_reducible apply AWt.done)))
          (refine AW.ret ?_; (repeat (first | refine Then.r ?_ | refine InBlk.r ?_)))
          rw [List.append_nil]
          have hpt : ∀ j, m.length + 1 ≤ j → (M2.set (m.length + 0) (some { cells := splice [.int .i64 0, .slice none 0 0, .slice none 0 0] 0 [.int .i64 (g : Nat), sv, rv] }))[j]? = M2[j]? := fun j hj => List.getElem?_set_ne (by omega)
          refine ⟨_, ares_cell3 rfl rfl rfl rfl (by decide +kernel) sz124 (RdL.blk (List.getElem?_set_self (by omega))) rfl rfl, .inr ⟨⟨g, s, rs⟩, q, sv, rv, hsome, by simp [splice], ?_⟩, ?_⟩
          ·refine ContAt.low (b0 := m.length + 1) ⟨?_, hrec.keep fun j b hb hj _ => by rw [hpt j hj]; exact hb, hsep⟩ (by omega)
           exact Row.keep hsn fun j _ hnj => hpt j (hsn.ge_of hnj)
          ·rw [hN2]
           exact set_high (by omega) _
   ·have hnone : parseF l = none := by rw [hpar]; exact if_neg fun e => c12 e.1
    rw [hlen0] at hps
    (repeat (first|(with_reducible refine AWo.cons ?_)|((with_reducible refine Step.id ?_);first|((with_reducible apply Step.gdT);exact rfl;exact rfl;((rfl)))|((with_reducible apply Step.move);exact rfl;exact rfl)|((with_reducible apply Step.assign);exact rfl;exact rfl)|((with_reducible apply Step.load);exact rfl;((decide +kernel));exact rfl;((exact rd0 _)))|((with_reducible apply Step.ix1 (k := 0));exact rfl;((assumption));exact rfl;((decide +kernel));exact rfl;((omega)))|((with_reducible apply Step.lss);exact rfl;exact rfl;exact rfl)|((with_reducible apply Step.neq);exact rfl;exact rfl;exact rfl)|((with_reducible apply Step.len);exact rfl;((assumption));((decide +kernel));exact rfl)|((with_reducible apply Step.extract);exact rfl;exact rfl;exact rfl)|((with_reducible apply Step.pickF);exact rfl;exact rfl;exact rfl;exact rfl;((rfl)))|((with_reducible apply Step.build);exact rfl;exact bl124z;exact rfl))|(with_reducible first|apply AWo.nil|apply AW.seq|apply Then.n|apply AW.regL)|((with_reducible apply AW.condT);exact rfl;(((simp only [zq1, zq2, zq3, zq4, zq5, zq6];first|assumption|omega))))))
    ((with_reducible apply Step.storeL (n := 3) (v := [.int .i64 0, .slice none 0 0, .slice none 0 0]));exact rfl;exact rfl;exact (get_old [] hM1);exact rfl;exact sz124;exact rfl;exact rfl;((decide)))
    (repeat (first|(with_reducible refine AWo.cons ?_)|((with_reducible refine Step.id ?_);((with_reducible apply Step.assign);exact rfl;exact rfl))|(with_reducible first|apply AWo.nil|apply Then.n)))
    (refine AW.ret ?_; (repeat (first | refine Then.r ?_ | refine InBlk.r ?_)))
    refine ⟨_, ares_cell3 rfl rfl rfl rfl (by decide +kernel) sz124 (RdL.blk (List.getElem?_set_self (by rw [List.length_append]; omega))) rfl rfl, .inl ⟨hnone, rfl⟩, ?_⟩
    rw [hN1', List.append_nil]
    exact set_high (by omega) _
theorem RowC.at8 {M : AM} {b0 : Nat} {u : Value} {l : List UInt8} (h : RowC M b0 u l) (hM : 0 < M.length) : ∃ a, BytsAt M u a 0 l ∧ a < M.length := by
 obtain ⟨a, h1, h2, h3⟩ := h.sl hM
 refine ⟨a, ⟨h1, fun k hk => ?_⟩, h2⟩
 obtain ⟨b, q1, q2⟩ := h3 (by omega)
 exact ⟨b, q1, q2 k _ (by rw [by8_get hk]; simp [hk])⟩
theorem ze188 : zeroB Try.prog 188 = some #[.pointer none, .int .i64 0, .int .i64 0, .slice none 0 0, .slice none 0 0, .bool false] := by kernel_rfl
theorem sz188 : szB Try.prog 188 = some 6 := by kernel_rfl
theorem bl188z : abuild Try.prog 188 [] = some (.agg #[.pointer none, .int .i64 0, .int .i64 0, .slice none 0 0, .slice none 0 0, .bool false]) := by kernel_rfl
theorem bl188 {d : Nat} {n g : Int} {a b : Value} (ha : SlV a := by assumption) (hb : SlV b := by assumption) : abuild Try.prog 188 [(0, .pointer (some ⟨d, 0, none⟩)), (1, .int .i64 n), (2, .int .i64 g), (3, a), (4, b)] = some (.agg #[.pointer (some ⟨d, 0, none⟩), .int .i64 n, .int .i64 g, a, b, .bool false]) := by
 rcases ha with rfl | ⟨_, _, _, rfl⟩ <;> rcases hb with rfl | ⟨_, _, _, rfl⟩ <;> kernel_rfl
theorem frN_len : ∀ (k : Nat) (l : List UInt8), (frN k l).1.length ≤ k
 | 0, _ => Nat.le_refl _
 | k + 1, l => by
  unfold frN
  cases frStep l with
  | none => exact Nat.zero_le _
  | some x => exact Nat.succ_le_succ (frN_len k x.2)
theorem frames_len (l : List UInt8) : (frames l).1.length ≤ l.length := frN_len _ _
def WhQ (l : List UInt8) (dk k : Nat) (b0 : Nat) (r : Value) (M : AM) : Prop :=
 (parseF l = none ∧ r = .tuple #[.agg #[.pointer none, .int .i64 0, .int .i64 0, .slice none 0 0, .slice none 0 0, .bool false], .int .i64 0, .bool false]) ∨ ∃ c n sv rv, parseF l = some (c, n) ∧ r = .tuple #[.agg #[.pointer (some ⟨dk, 0, none⟩), .int .i64 (k : Nat), .int .i64 (c.gen : Nat), sv, rv, .bool false], .int .i64 (n : Nat), .bool true] ∧ ContAt M b0 sv rv c
set_option maxHeartbeats 16000000 in
set_option maxRecDepth 100000 in
theorem whole_ok {m : AM} {b0 dk n : Nat} {D : Dk} {u0 u1 : Value} (h : RDiskAt m b0 dk D u0 u1) (hn2 : n < 2) :
  ACall Try.prog 122 #[.pointer (some ⟨dk, 0, none⟩), .int .i64 (n : Nat)] m (fun r M => WhQ (D.ar n).b dk n m.length r M ∧ ∃ N, M = m ++ N) := by
 have hdl := h.lt
 have ru := fun T => h.rd T _ _ (rkd_u hn2)
 obtain ⟨au, hbu, hau⟩ := (h.rn n).at8 (by omega)
 have hlen := (h.ok.arl n).1
 have hhi := h.ok.hi
 generalize hL : (D.ar n).b = l at *
 refine ACall.start Try.func122 rfl rfl ?_
 (repeat (first|(with_reducible refine AWo.cons ?_)|((with_reducible refine Step.id ?_);first|((with_reducible apply Step.move);exact rfl;exact rfl)|((with_reducible apply Step.assign);exact rfl;exact rfl)|((with_reducible apply Step.load);exact rfl;((decide +kernel));exact rfl;((exact ru _)))|((with_reducible apply Step.field (k := 1));exact rfl;((decide +kernel));exact rfl)|((with_reducible apply Step.ixC (n := 2));exact rfl;exact rfl;exact ar144;exact rfl;((omega)))|((with_reducible apply Step.nilp);exact rfl;exact rfl)|((with_reducible apply Step.alloc 0);exact rfl;exact ze188;exact rfl;((first|(simp only [zq7, zq8, zq9, zq0, iv_set, bv_set, iv_rep, bv_rep] <;> rfl)|rfl))))|(with_reducible first|apply AWo.nil|apply AW.seq|apply Then.n|apply AW.regL)))
 ((with_reducible apply Step.callX fit);exact rfl;exact Try.func21;exact rfl;exact rfl;exact (RFrames_ok (hbu.old _) (by rw [List.length_append];omega) (by omega)))
 rintro r1 M1 ⟨N1, hN1⟩ ⟨pv, rfl, pc, hpr, hpe⟩
 rw [List.length_append, List.length_singleton] at hpr hpe
 have hM1 : M1[m.length + 0]? = some (some { cells := [.pointer none, .int .i64 0, .int .i64 0, .slice none 0 0, .slice none 0 0, .bool false] }) := by rw [hN1, List.append_assoc, Nat.add_zero, List.getElem?_append_right (Nat.le_refl _), Nat.sub_self]; rfl
 have hM1l : m.length + 1 ≤ M1.length := by rw [hN1]; simp only [List.length_append, List.length_singleton]; omega
 obtain ⟨N1', hN1'⟩ : ∃ N, M1 = m ++ N := ⟨_, by rw [hN1, List.append_assoc]⟩
 obtain ⟨ap, hps, hpa, hpd⟩ := hpr.sl (by omega)
 have hpar : parseF l = (match (frames l).1 with
  | h :: s :: recs => if h.length = 12 ∧ 1 ≤ numB (h.take 8) ∧ numB (h.take 8) ≤ 4611686018427387904 ∧ numB (h.drop 8) ≤ recs.length then some (⟨numB (h.take 8), s, recs⟩, (frames l).2.length) else none
  | _ => none) := rfl
 have hcnt := frames_len l
 generalize (frames l).2.length = q at *
 generalize (frames l).1 = ps at *
 unfold WhQ
 by_cases c2 : ps.length < 2
 ·have hnone : parseF l = none := by
   rw [hpar]
   match ps, c2 with
   | [], _ => rfl
   | [_], _ => rfl
  (repeat (first|(with_reducible refine AWo.cons ?_)|((with_reducible refine Step.id ?_);first|((with_reducible apply Step.gdF);exact rfl;exact rfl;(((simp only [zq1, zq2, zq3, zq4, zq5, zq6];first|assumption|omega))))|((with_reducible apply Step.move);exact rfl;exact rfl)|((with_reducible apply Step.assign);exact rfl;exact rfl)|((with_reducible apply Step.lss);exact rfl;exact rfl;exact rfl)|((with_reducible apply Step.len);exact rfl;((assumption));((decide +kernel));exact rfl)|((with_reducible apply Step.extract);exact rfl;exact rfl;exact rfl)|((with_reducible apply Step.pickT);exact rfl;exact rfl;exact rfl;exact rfl;(((simp only [zq1, zq2, zq3, zq4, zq5, zq6];first|assumption|omega))))|((with_reducible apply Step.build);exact rfl;exact bl188z;exact rfl))|(with_reducible first|apply AWo.nil|apply AW.seq|apply Then.n|apply AW.regL)|((with_reducible apply AW.condT);exact rfl;((rfl)))))
  ((with_reducible apply Step.storeL (n := 6) (v := [.pointer none, .int .i64 0, .int .i64 0, .slice none 0 0, .slice none 0 0, .bool false]));exact rfl;exact rfl;exact (get_old [] hM1);exact rfl;exact sz188;exact rfl;exact rfl;((decide)))
  (repeat (first|(with_reducible refine AWo.cons ?_)|((with_reducible refine Step.id ?_);((with_reducible apply Step.assign);exact rfl;exact rfl))|(with_reducible first|apply AWo.nil|apply Then.n)))
  (refine AW.ret ?_; (repeat (first | refine Then.r ?_ | refine InBlk.r ?_)))
  refine ⟨_, ares_cell3 rfl rfl rfl rfl (by decide +kernel) sz188 (RdL.blk (List.getElem?_set_self (by rw [List.length_append]; omega))) rfl rfl, .inl ⟨hnone, rfl⟩, ?_⟩
  rw [hN1', List.append_nil]
  exact set_high (by omega) _
 ·obtain ⟨h, s, rs, rfl⟩ : ∃ h s rs, ps = h :: s :: rs := by
   match ps, c2 with
   | [], c => exact absurd (by simp) c
   | [_], c => exact absurd (by simp) c
   | h :: s :: rs, _ => exact ⟨h, s, rs, rfl⟩
  ·skip
   obtain ⟨uh, e1, e2, e3⟩ := hpe 0 (by simp)
   change Row M1 _ 1 uh (by8 h) h.length at e2
   have hlen0 : (h :: s :: rs).length = rs.length + 2 := rfl
   rw [hlen0] at hcnt
   have rd0 : ∀ T, Rd (M1 ++ T) ap 0 uh := fun T => Rd.old T (by
    obtain ⟨b, w1, w2⟩ := hpd (by omega)
    have := w2 0 uh e1
    exact ⟨b, w1, this⟩)
   obtain ⟨ah, hhs, hha, hhd⟩ := e2.sl (by omega)
   by_cases c12 : h.length = 12
   ·clear hhs hhd hha
    obtain ⟨ah, kdh, szh, _, hha, huh, hhc⟩ := e2.pos (by omega)
    rw [c12] at huh
    have hbA : BytsAt M1 uh ah 0 h := ⟨by rw [huh, c12]; exact Sl.mk (Nat.le_refl _), fun k hk => ⟨_, hhc, by rw [Nat.zero_add, by8_get hk]; simp [hk]⟩⟩
    subst huh
    have hbA' : BytsAt M1 (.slice (some ⟨ah, 0, none⟩) h.length 12) ah 0 h := by rw [c12]; exact hbA
    have e8 : (8 : Int) = ((8 : Nat) : Int) := rfl
    have ht8 : (h.take 8).length = 8 := by rw [List.length_take]; omega
    have hd8 : (h.drop 8).length = 4 := by rw [List.length_drop]; omega
    have hg8 := fun T => value8_ok ((hbA'.old T).pre (j := 8) (by omega) (by omega) (by rw [List.length_append]; omega)) ht8
    have hg4 := fun T => value_ok (by have := (hbA'.old T).part (i := 8) (j := 12) (by omega) (by omega) (by omega) (by rw [List.length_append]; omega); rw [List.take_of_length_le (by omega)] at this; exact this) (by rw [hd8]; omega)
    have hk4 := numB_lt4 (l := h.drop 8) (by omega)
    rw [hlen0] at hps
    have hpar' : parseF l = if 1 ≤ numB (h.take 8) ∧ numB (h.take 8) ≤ 4611686018427387904 ∧ numB (h.drop 8) ≤ rs.length then some (⟨numB (h.take 8), s, rs⟩, q) else none := by
     rw [hpar]
     simp only [c12, true_and]
    generalize numB (h.drop 8) = k at *
    generalize numB (h.take 8) = g at *
    generalize hgz : min ((g : Nat) : Int) 4611686018427387905 = gz at *
    (repeat (first|(with_reducible refine AWo.cons ?_)|((with_reducible refine Step.id ?_);first|((with_reducible apply Step.gdT);exact rfl;exact rfl;((rfl)))|((with_reducible apply Step.move);exact rfl;exact rfl)|((with_reducible apply Step.assign);exact rfl;exact rfl)|((with_reducible apply Step.load);exact rfl;((decide +kernel));exact rfl;((exact rd0 _)))|((with_reducible apply Step.ix1 (k := 0));exact rfl;((assumption));exact rfl;((decide +kernel));exact rfl;((omega)))|((with_reducible apply Step.lss);exact rfl;exact rfl;exact rfl)|((with_reducible apply Step.neq);exact rfl;exact rfl;exact rfl)|((with_reducible apply Step.len);exact rfl;((first|assumption|exact Sl.mk (by omega)));((decide +kernel));exact rfl)|((with_reducible apply Step.extract);exact rfl;exact rfl;exact rfl)|((with_reducible apply Step.pickF);exact rfl;exact rfl;exact rfl;exact rfl;((rfl))))|(with_reducible apply AWo.nil)|((fail_if_success (with_reducible refine AW.atR (id := 4) ?_));(with_reducible apply AW.seq))|(with_reducible first|apply Then.n|apply AW.regL|apply AW.skip)|((with_reducible apply AW.condF);exact rfl;((rfl)))))
    refine AW.seq ?_
    refine AW.join (fun t' M' => M' = M1 ++ [] ∧ All (fun i v => t' i = some v) [(0, .pointer (some ⟨dk, 0, none⟩)), (1, .int .i64 (n : Nat)), (4, .pointer (some ⟨m.length + 0, 0, none⟩)), (7, pv), (8, .int .i64 (q : Nat)), (9, .int .i64 gz), (10, .int .i64 (k : Nat))]) ?_ ?_
    ·(repeat' (first|((with_reducible refine Step.id ?_);first|((with_reducible apply Step.move);exact rfl;exact rfl)|((with_reducible apply Step.assign);exact rfl;exact rfl)|((with_reducible apply Step.load);exact rfl;((decide +kernel));exact rfl;((exact rd0 _)))|((with_reducible apply Step.ix1 (k := 0));exact rfl;((assumption));exact rfl;((decide +kernel));exact rfl;((omega)))|((with_reducible apply Step.slFrom);exact rfl;exact rfl;((assumption));((omega));((omega));((omega));exact un22;exact sz5;exact rfl)|((with_reducible apply Step.slTo);exact rfl;exact rfl;((assumption));((omega));exact un22;exact sz5;exact rfl)|((with_reducible apply Step.callR fit);exact rfl;exact Try.func75;exact rfl;exact rfl;exact (hg8 _))|((with_reducible apply Step.callR fit);exact rfl;exact Try.func75;exact rfl;exact rfl;exact (hg4 _)))|(with_reducible apply Then.n)|((with_reducible apply AW.drawT fit (T := (.step 0 (.step 1 (.step 5 (.step 6 (.both (.step 2 (.step 3 (.both (.step 4 (.step 7 (.step 8 (.step 9 (.step 10 (.step 11 .done)))))) (.step 7 (.both (.step 4 (.step 8 (.step 9 (.step 10 (.step 11 .done))))) (.step 8 (.step 4 (.step 9 (.step 10 (.step 11 .done)))))))))) (.step 7 (.both (.step 2 (.step 3 (.both (.step 4 (.step 8 (.step 9 (.step 10 (.step 11 .done))))) (.step 8 (.step 4 (.step 9 (.step 10 (.step 11 .done)))))))) (.step 8 (.step 2 (.step 3 (.step 4 (.step 9 (.step 10 (.step 11 .done))))))))))))))));((decide +kernel)))|((with_reducible apply AWt.step);exact rfl)|(with_reducible apply AWt.done)|refine AWt.both ?_ ?_))
     all_goals exact ⟨rfl, (by repeat (first | exact trivial | (refine And.intro rfl ?_)))⟩
    ·rintro t' M' ⟨rfl, hsl⟩
     refine AW.weak (fr_all hsl) ?_
     clear hsl
     by_cases x2 : g < 1
     ·have hnone : parseF l = none := by rw [hpar']; exact if_neg fun e => by omega
      (repeat (first|(with_reducible refine AWo.cons ?_)|((with_reducible refine Step.id ?_);first|((with_reducible apply Step.gdF);exact rfl;exact rfl;((first|rfl|(simp only [zq1, zq2, zq3, zq4, zq5, zq6];first|assumption|omega))))|((with_reducible apply Step.move);exact rfl;exact rfl)|((with_reducible apply Step.lss);exact rfl;exact rfl;exact rfl)|((with_reducible apply Step.pickT);exact rfl;exact rfl;exact rfl;exact rfl;((first|rfl|(simp only [zq1, zq2, zq3, zq4, zq5, zq6];first|assumption|omega))))|((with_reducible apply Step.build);exact rfl;exact bl188z;exact rfl))|(with_reducible first|apply AWo.nil|apply AW.seq|apply Then.n|apply AW.regL)|((with_reducible apply AW.condT);exact rfl;((rfl)))))
      ((with_reducible apply Step.storeL (n := 6) (v := [.pointer none, .int .i64 0, .int .i64 0, .slice none 0 0, .slice none 0 0, .bool false]));exact rfl;exact rfl;exact (get_old [] hM1);exact rfl;exact sz188;exact rfl;exact rfl;((decide)))
      (repeat (first|(with_reducible refine AWo.cons ?_)|((with_reducible refine Step.id ?_);((with_reducible apply Step.assign);exact rfl;exact rfl))|(with_reducible first|apply AWo.nil|apply Then.n)))
      (refine AW.ret ?_; (repeat (first | refine Then.r ?_ | refine InBlk.r ?_)))
      refine ⟨_, ares_cell3 rfl rfl rfl rfl (by decide +kernel) sz188 (RdL.blk (List.getElem?_set_self (by rw [List.length_append]; omega))) rfl rfl, .inl ⟨hnone, rfl⟩, ?_⟩
      rw [hN1', List.append_nil]
      exact set_high (by omega) _
     ·by_cases x3 : 4611686018427387904 < g
      ·have hnone : parseF l = none := by rw [hpar']; exact if_neg fun e => by omega
       (repeat (first|(with_reducible refine AWo.cons ?_)|((with_reducible refine Step.id ?_);first|((with_reducible apply Step.gdT);exact rfl;exact rfl;(((simp only [zq1, zq2, zq3, zq4, zq5, zq6];first|assumption|omega))))|((with_reducible apply Step.gdF);exact rfl;exact rfl;(((simp only [zq1, zq2, zq3, zq4, zq5, zq6];first|assumption|omega))))|((with_reducible apply Step.move);exact rfl;exact rfl)|((with_reducible apply Step.lss);exact rfl;exact rfl;exact rfl)|((with_reducible apply Step.gtr);exact rfl;exact rfl;exact rfl)|((with_reducible apply Step.pickT);exact rfl;exact rfl;exact rfl;exact rfl;(((simp only [zq1, zq2, zq3, zq4, zq5, zq6];first|assumption|omega))))|((with_reducible apply Step.pickF);exact rfl;exact rfl;exact rfl;exact rfl;(((simp only [zq1, zq2, zq3, zq4, zq5, zq6];first|assumption|omega))))|((with_reducible apply Step.build);exact rfl;exact bl188z;exact rfl))|(with_reducible first|apply AWo.nil|apply AW.seq|apply Then.n|apply AW.regL)|((with_reducible apply AW.condT);exact rfl;((rfl)))))
       ((with_reducible apply Step.storeL (n := 6) (v := [.pointer none, .int .i64 0, .int .i64 0, .slice none 0 0, .slice none 0 0, .bool false]));exact rfl;exact rfl;exact (get_old [] hM1);exact rfl;exact sz188;exact rfl;exact rfl;((decide)))
       (repeat (first|(with_reducible refine AWo.cons ?_)|((with_reducible refine Step.id ?_);((with_reducible apply Step.assign);exact rfl;exact rfl))|(with_reducible first|apply AWo.nil|apply Then.n)))
       (refine AW.ret ?_; (repeat (first | refine Then.r ?_ | refine InBlk.r ?_)))
       refine ⟨_, ares_cell3 rfl rfl rfl rfl (by decide +kernel) sz188 (RdL.blk (List.getElem?_set_self (by rw [List.length_append]; omega))) rfl rfl, .inl ⟨hnone, rfl⟩, ?_⟩
       rw [hN1', List.append_nil]
       exact set_high (by omega) _
      ·by_cases x4 : rs.length < k
       ·have hnone : parseF l = none := by rw [hpar']; exact if_neg fun e => by omega
        (repeat (first|(with_reducible refine AWo.cons ?_)|((with_reducible refine Step.id ?_);first|((with_reducible apply Step.gdT);exact rfl;exact rfl;(((simp only [zq1, zq2, zq3, zq4, zq5, zq6];first|assumption|omega))))|((with_reducible apply Step.move);exact rfl;exact rfl)|((with_reducible apply Step.sub);exact rfl;exact rfl;((omega));exact rfl)|((with_reducible apply Step.lss);exact rfl;exact rfl;exact rfl)|((with_reducible apply Step.gtr);exact rfl;exact rfl;exact rfl)|((with_reducible apply Step.len);exact rfl;((assumption));((decide +kernel));exact rfl)|((with_reducible apply Step.pickF);exact rfl;exact rfl;exact rfl;exact rfl;(((simp only [zq1, zq2, zq3, zq4, zq5, zq6];first|assumption|omega))))|((with_reducible apply Step.build);exact rfl;exact bl188z;exact rfl))|(with_reducible first|apply AWo.nil|apply AW.seq|apply Then.n|apply AW.regL)|((with_reducible apply AW.condT);exact rfl;(((simp only [zq1, zq2, zq3, zq4, zq5, zq6];first|assumption|omega))))))
        ((with_reducible apply Step.storeL (n := 6) (v := [.pointer none, .int .i64 0, .int .i64 0, .slice none 0 0, .slice none 0 0, .bool false]));exact rfl;exact rfl;exact (get_old [] hM1);exact rfl;exact sz188;exact rfl;exact rfl;((decide)))
        (repeat (first|(with_reducible refine AWo.cons ?_)|((with_reducible refine Step.id ?_);((with_reducible apply Step.assign);exact rfl;exact rfl))|(with_reducible first|apply AWo.nil|apply Then.n)))
        (refine AW.ret ?_; (repeat (first | refine Then.r ?_ | refine InBlk.r ?_)))
        refine ⟨_, ares_cell3 rfl rfl rfl rfl (by decide +kernel) sz188 (RdL.blk (List.getElem?_set_self (by rw [List.length_append]; omega))) rfl rfl, .inl ⟨hnone, rfl⟩, ?_⟩
        rw [hN1', List.append_nil]
        exact set_high (by omega) _
       ·have hsome : parseF l = some (⟨g, s, rs⟩, q) := by rw [hpar']; exact if_pos ⟨by omega, by omega, by omega⟩
        have hgz2 : gz = ((g : Nat) : Int) := by rw [← hgz]; exact Int.min_eq_left (by omega)
        subst hgz2
        obtain ⟨sv, f1, _, _⟩ := hpe 1 (by simp)
        have rd1 : ∀ T, Rd (M1 ++ T) ap 1 sv := fun T => Rd.old T (by
         obtain ⟨b, w1, w2⟩ := hpd (by omega)
         have := w2 1 sv f1
         exact ⟨b, w1, this⟩)
        (repeat' (first|(with_reducible refine AWo.cons ?_)|((with_reducible refine Step.id ?_);first|((with_reducible apply Step.gdT);exact rfl;exact rfl;(((simp only [zq1, zq2, zq3, zq4, zq5, zq6];first|assumption|omega))))|((with_reducible apply Step.move);exact rfl;exact rfl)|((with_reducible apply Step.load);exact rfl;((decide +kernel));exact rfl;((exact rd1 _)))|((with_reducible apply Step.ix1 (k := 1));exact rfl;((assumption));exact rfl;((decide +kernel));exact rfl;((omega)))|((with_reducible apply Step.sub);exact rfl;exact rfl;((omega));exact rfl)|((with_reducible apply Step.lss);exact rfl;exact rfl;exact rfl)|((with_reducible apply Step.gtr);exact rfl;exact rfl;exact rfl)|((with_reducible apply Step.len);exact rfl;((assumption));((decide +kernel));exact rfl)|((with_reducible apply Step.pickF);exact rfl;exact rfl;exact rfl;exact rfl;(((simp only [zq1, zq2, zq3, zq4, zq5, zq6];first|assumption|omega)))))|(with_reducible first|apply AWo.nil|apply AW.seq|apply Then.n|apply AW.regL)|((with_reducible apply AW.drawT fit (T := (.step 0 (.step 1 (.step 2 (.step 3 (.step 4 (.step 6 (.step 9 (.both (.step 5 (.step 7 (.step 8 (.step 10 (.step 11 (.step 12 .done)))))) (.step 7 (.step 5 (.step 8 (.step 10 (.step 11 (.step 12 .done))))))))))))))));((decide +kernel)))|((with_reducible apply AWt.step);exact rfl)|(with_reducible apply AW.skip)|((with_reducible apply AW.condF);exact rfl;(((simp only [zq1, zq2, zq3, zq4, zq5, zq6];first|assumption|omega))))|refine AWt.both ?_ ?_))
        all_goals
         ((with_reducible apply Step.tailN (l := 2) (b0 := m.length + 1) (n := rs.length + 2) (c := pc));exact rfl;exact rfl;exact (hpr.old []);((omega));exact rfl;((omega));exact un27;exact sz22d;exact rfl)
         intro rv M2 hsg hml2 hk2 hnb hrs
         rw [List.append_nil] at hml2 hk2 hrs
         have hssv : SlV sv := by
          obtain ⟨u, w1, w2, _⟩ := hpe 1 (by simp)
          rw [f1] at w1; injection w1 with w1; subst w1
          exact w2.slv
         have hsrv := hsg.slv
         have hon : ([.pointer (some ⟨dk, 0, none⟩), .int .i64 (n : Nat), .int .i64 (g : Nat), sv, rv, .bool false] : List Value).all (·.oneCell') = true := by rw [List.all_cons, List.all_cons, List.all_cons, List.all_cons, List.all_cons, hssv.one.1, hsrv.one.1]; rfl
         obtain ⟨hrec, sv2, w1, hsn, hsep⟩ := Pays.tail hpr hpe hsg hk2 hnb
         rw [f1] at w1; injection w1 with w1; subst w1
         have rd2 : ∀ T, Rd (M2 ++ T) ap 1 sv := fun T => Rd.old T (hrs _ _ _ (by have := rd1 []; rwa [List.append_nil] at this))
         have hM2 : M2[m.length + 0]? = some (some { cells := [.pointer none, .int .i64 0, .int .i64 0, .slice none 0 0, .slice none 0 0, .bool false] }) := by rw [hk2 _ (by omega) (NotOf.row hpr (by omega))]; exact hM1
         obtain ⟨N2, hN2⟩ := pre_keep (m0 := m) (M := M1) ⟨N1', hN1'⟩ hml2 fun j hj => hk2 j (by omega) (NotOf.row hpr (by omega))
         rw [← List.append_nil M2]
         (repeat' (first|((with_reducible refine Step.id ?_);first|((with_reducible apply Step.load);exact rfl;((decide +kernel));exact rfl;((exact rd2 _)))|((with_reducible apply Step.build);exact rfl;exact bl188;exact rfl))|((with_reducible apply AWt.step);exact rfl)))
         ((with_reducible apply Step.storeL (n := 6) (v := [.pointer (some ⟨dk, 0, none⟩), .int .i64 (n : Nat), .int .i64 (g : Nat), sv, rv, .bool false]));exact rfl;exact rfl;exact (get_old [] hM2);exact rfl;exact sz188;exact rfl;exact hon;((show 0 + 6 ≤ 6;omega)))
         (repeat' (first|((with_reducible refine Step.id ?_);((with_reducible apply Step.assign);exact rfl;exact rfl))|(with_reducible apply Then.n)|((with_reducible apply AWt.step);exact rfl)|(with_reducible apply AWt.done)))
         (refine AW.ret ?_; (repeat (first | refine Then.r ?_ | refine InBlk.r ?_)))
         rw [List.append_nil]
         have hpt : ∀ j, m.length + 1 ≤ j → (M2.set (m.length + 0) (some { cells := splice [.pointer none, .int .i64 0, .int .i64 0, .slice none 0 0, .slice none 0 0, .bool false] 0 [.pointer (some ⟨dk, 0, none⟩), .int .i64 (n : Nat), .int .i64 (g : Nat), sv, rv, .bool false] }))[j]? = M2[j]? := fun j hj => List.getElem?_set_ne (by omega)
         refine ⟨_, ares_cell3 rfl rfl rfl rfl (by decide +kernel) sz188 (RdL.blk (List.getElem?_set_self (by omega))) rfl rfl, .inr ⟨⟨g, s, rs⟩, q, sv, rv, hsome, by simp [splice], ?_⟩, ?_⟩
         ·refine ContAt.low (b0 := m.length + 1) ⟨?_, hrec.keep fun j b hb hj _ => by rw [hpt j hj]; exact hb, hsep⟩ (by omega)
          exact Row.keep hsn fun j _ hnj => hpt j (hsn.ge_of hnj)
         ·rw [hN2]
          exact set_high (by omega) _
   ·have hnone : parseF l = none := by rw [hpar]; exact if_neg fun e => c12 e.1
    rw [hlen0] at hps
    (repeat (first|(with_reducible refine AWo.cons ?_)|((with_reducible refine Step.id ?_);first|((with_reducible apply Step.gdT);exact rfl;exact rfl;((rfl)))|((with_reducible apply Step.move);exact rfl;exact rfl)|((with_reducible apply Step.assign);exact rfl;exact rfl)|((with_reducible apply Step.load);exact rfl;((decide +kernel));exact rfl;((exact rd0 _)))|((with_reducible apply Step.ix1 (k := 0));exact rfl;((assumption));exact rfl;((decide +kernel));exact rfl;((omega)))|((with_reducible apply Step.lss);exact rfl;exact rfl;exact rfl)|((with_reducible apply Step.neq);exact rfl;exact rfl;exact rfl)|((with_reducible apply Step.len);exact rfl;((assumption));((decide +kernel));exact rfl)|((with_reducible apply Step.extract);exact rfl;exact rfl;exact rfl)|((with_reducible apply Step.pickF);exact rfl;exact rfl;exact rfl;exact rfl;((rfl)))|((with_reducible apply Step.build);exact rfl;exact bl188z;exact rfl))|(with_reducible first|apply AWo.nil|apply AW.seq|apply Then.n|apply AW.regL)|((with_reducible apply AW.condT);exact rfl;(((simp only [zq1, zq2, zq3, zq4, zq5, zq6];first|assumption|omega))))))
    ((with_reducible apply Step.storeL (n := 6) (v := [.pointer none, .int .i64 0, .int .i64 0, .slice none 0 0, .slice none 0 0, .bool false]));exact rfl;exact rfl;exact (get_old [] hM1);exact rfl;exact sz188;exact rfl;exact rfl;((decide)))
    (repeat (first|(with_reducible refine AWo.cons ?_)|((with_reducible refine Step.id ?_);((with_reducible apply Step.assign);exact rfl;exact rfl))|(with_reducible first|apply AWo.nil|apply Then.n)))
    (refine AW.ret ?_; (repeat (first | refine Then.r ?_ | refine InBlk.r ?_)))
    refine ⟨_, ares_cell3 rfl rfl rfl rfl (by decide +kernel) sz188 (RdL.blk (List.getElem?_set_self (by rw [List.length_append]; omega))) rfl rfl, .inl ⟨hnone, rfl⟩, ?_⟩
    rw [hN1', List.append_nil]
    exact set_high (by omega) _
def hdB (c : Cont) : List UInt8 := be c.gen 8 ++ be c.recs.length 4
def encB (c : Cont) : List UInt8 := frB (hdB c) ++ frB c.snap ++ c.recs.flatMap frB
def wrF (D : Dk) (n : Int) (c : Cont) : Int × Dk :=
 if (clF D n).1 ≠ 0 then clF D n else if (apF (clF D n).2 n (encB c)).1 ≠ 0 then apF (clF D n).2 n (encB c) else syF (apF (clF D n).2 n (encB c)).2 n
theorem hdB_len (c : Cont) : (hdB c).length = 12 := by simp [hdB, be_len]
theorem Byts.add {M1 Y M : AM} {bc n : Nat} {v r w : Value} {p : List UInt8} {cc : List Value} (hw : Row M1 bc 1 w (by8 p) p.length) (hY : ∃ N, Y = M1 ++ N) (hv : Row Y M1.length 1 v cc n) (h : Add Y M v r) (h0 : 0 < M1.length) : Byts M w p := by
 obtain ⟨N, rfl⟩ := hY
 have hl := h.1
 rw [List.length_append] at hl
 have : Row M bc 1 w (by8 p) p.length := Row.keep hw fun j hj _ => by
  rw [h.2.1 j (by rw [List.length_append]; omega) (NotOf.row hv hj), List.getElem?_append_left hj]
 exact this.byts (by omega)
theorem Add.grow {M1 Y M : AM} {n : Nat} {v r : Value} {cc : List Value} (hY : ∃ N, Y = M1 ++ N) (hv : Row Y M1.length 1 v cc n) (h : Add Y M v r) : ∃ N, M = M1 ++ N :=
 pre_keep hY h.1 fun j hj => by
  obtain ⟨N, rfl⟩ := hY
  exact h.2.1 j (by rw [List.length_append]; omega) (NotOf.row hv hj)
theorem Row.vwM {S : Nat → Prop} {M : AM} {b0 s : Nat} {u : Value} {c : List Value} {n : Nat} (h : Row (Abs.vw S M) b0 s u c n) : Row M b0 s u c n := Row.msub h (Sub.vw _ _).m
theorem flat_take {α β : Type} (f : α → List β) (l : List α) (k : Nat) : ((l.take k).flatMap f).length ≤ (l.flatMap f).length := by
 have := congrArg (fun x => (x.flatMap f).length) (List.take_append_drop k l)
 simp only [List.flatMap_append, List.length_append] at this
 omega
set_option maxHeartbeats 16000000 in
set_option maxRecDepth 100000 in
theorem write_ok {m : AM} {S : Nat → Prop} {b0 bc dk : Nat} {D : Dk} {u0 u1 sv rv : Value} {c : Cont} (n : Int) (hD : DiskAt m b0 dk D u0 u1) (hb0 : b0 ≤ m.length) (hC : ContAt (Abs.vw S m) bc sv rv c) (hS : ∀ j, dkD dk u0 u1 j → ¬ S j) (hg : c.gen ≤ 9223372036854775807) (hlen : (encB c).length ≤ 100000000) (hcnt : c.recs.length ≤ 100000000) :
  ACall Try.prog 118 #[.agg #[.int .i64 (c.gen : Nat), sv, rv], .pointer (some ⟨dk, 0, none⟩), .int .i64 n] m (fun r M => r = .int .i64 (wrF D n c).1 ∧ DkQ (wrF D n c).2 b0 dk u0 u1 m M) := by
 have hdl := hD.lt
 have hssv := hC.snap.slv
 obtain ⟨pc, hseg, hel⟩ := hC.recs
 have hsrv := hseg.slv
 have hw1 : (Value.agg #[.int .i64 (c.gen : Nat), sv, rv]).cells.all (·.oneCell') = true := by
  show (#[Value.int .i64 (c.gen : Nat), sv, rv]).all (·.oneCell') = true
  simp only [← Array.all_toList, List.all_cons, hssv.one.1, hsrv.one.1]
  rfl
 refine ACall.start Try.func118 rfl rfl ?_
 (repeat (first|(with_reducible refine AWo.cons ?_)|((with_reducible refine Step.id ?_);first|((with_reducible apply Step.move);exact rfl;exact rfl)|((with_reducible apply Step.assign);exact rfl;exact rfl)|((with_reducible apply Step.box 0);exact rfl;exact rfl;((first|assumption|exact hw1));exact rfl;((first|(simp only [zq7, zq8, zq9, zq0, iv_set, bv_set, iv_rep, bv_rep] <;> rfl)|rfl))))|(with_reducible first|apply AWo.nil|apply AW.seq|apply Then.n|apply AW.regL)))
 obtain ⟨X, hX⟩ : ∃ X, X = m ++ [some { cells := [Value.int .i64 (c.gen : Nat), sv, rv] }] := ⟨_, rfl⟩
 have hDX : DiskAt X b0 dk D u0 u1 := by rw [hX]; exact hD.old _
 have hcl := DClear_ok n hDX
 rw [show (m ++ [some { cells := (Value.agg #[.int .i64 (c.gen : Nat), sv, rv]).cells.toList }] : AM) = X from hX.symm]
 have hbX : X[m.length]? = some (some { cells := [.int .i64 (c.gen : Nat), sv, rv] }) := by rw [hX, List.getElem?_append_right (Nat.le_refl _), Nat.sub_self]; rfl
 have hXl : X.length = m.length + 1 := by rw [hX, List.length_append]; rfl
 have hkXm : Keep (dkD dk u0 u1) m X := by rw [hX]; exact Keep.app _ _ _
 rw [← List.append_nil X]
 (repeat ((with_reducible refine AWo.cons ?_)))
 ((with_reducible apply Step.callF fit);exact rfl;exact Try.func67;exact rfl;exact rfl;((rw [List.append_nil];exact hcl)))
 rintro r1 M1 ⟨rfl, hQ1⟩
 have hQ1' := hQ1
 obtain ⟨v0, v1, hD1, hk1, hf1⟩ := hQ1
 have hM1l := hk1.len
 have hnb : ∀ j, dkD dk u0 u1 j → j < m.length := fun j hj => by
  obtain ⟨_, b, hb, _⟩ := hD.at_ hj
  exact (List.getElem?_eq_some_iff.1 hb).1
 have hbM1 : M1[m.length]? = some (some { cells := [.int .i64 (c.gen : Nat), sv, rv] }) := by rw [hk1.get _ (by omega) fun e => by have := hnb _ e; omega]; exact hbX
 unfold wrF
 by_cases z1 : (clF D n).1 = 0
 ·rw [if_neg (fun e => e z1)]
  have hrd : ∀ (Y T : AM), (∃ N, Y = M1 ++ N) → Rd (Y ++ T) (m.length + 0) 0 (.int .i64 (c.gen : Nat)) ∧ Rd (Y ++ T) (m.length + 0) 1 sv ∧ Rd (Y ++ T) (m.length + 0) 2 rv := fun Y T hY => by
   obtain ⟨N, rfl⟩ := hY
   have hb : (M1 ++ N)[m.length + 0]? = some (some { cells := [.int .i64 (c.gen : Nat), sv, rv] }) := get_old N hbM1
   exact ⟨Rd.old T ⟨_, hb, rfl⟩, Rd.old T ⟨_, hb, rfl⟩, Rd.old T ⟨_, hb, rfl⟩⟩
  have hC1 : ContAt (Abs.vw S M1) bc sv rv c := by
   refine hC.msub ⟨by rw [vw_len, vw_len]; omega, fun j b _ hj => ?_⟩
   obtain ⟨q1, q2⟩ := vw_some.1 hj
   have hl := (List.getElem?_eq_some_iff.1 q2).1
   exact vw_some.2 ⟨q1, by rw [hk1.get j (by omega) (fun e => hS j e q1), hX, List.getElem?_append_left hl]; exact q2⟩
  have hsn := hC1.snap.vwM
  obtain ⟨pc, hseg, hel⟩ := hC1.recs
  obtain ⟨ar, orr, hsl, har, hrd3⟩ := hseg.sl (by rw [vw_len]; omega)
  rw [vw_len] at har
  have hb1 : b0 ≤ M1.length := by omega
  have h1 : 0 < M1.length := by omega
  have hr1 := fun T => hrd M1 T ⟨[], by simp⟩
  rw [z1, ← List.append_nil M1]
  (repeat (first|(with_reducible refine AWo.cons ?_)|((with_reducible refine Step.id ?_);first|((with_reducible apply Step.move);exact rfl;exact rfl)|((with_reducible apply Step.assign);exact rfl;exact rfl)|((with_reducible apply Step.neq);exact rfl;exact rfl;exact rfl))|(with_reducible apply AWo.nil)|((fail_if_success (with_reducible refine AW.atR (id := 4) ?_));(with_reducible apply AW.seq))|(with_reducible first|apply Then.n|apply AW.regL|apply AW.skip)|((with_reducible apply AW.condF);exact rfl;((rfl)))))
  refine AW.seq ?_
  refine AW.join (fun t' M' => ∃ r4, Row M' M1.length 1 r4 (by8 (frB (hdB c))) (frB (hdB c)).length ∧ (∃ N, M' = M1 ++ N) ∧ All (fun i v => t' i = some v) [(1, .pointer (some ⟨dk, 0, none⟩)), (2, .int .i64 n), (3, .pointer (some ⟨m.length + 0, 0, none⟩)), (8, r4)]) ?_ ?_
  ·(repeat' (first|((with_reducible refine Step.id ?_);first|((with_reducible apply Step.load);exact rfl;((decide +kernel));exact rfl;((first|exact (hr1 _).1|exact (hr1 _).2.2)))|((with_reducible apply Step.field0);exact rfl;((decide +kernel));exact rfl)|((with_reducible apply Step.field (k := 2));exact rfl;((decide +kernel));exact rfl)|((with_reducible apply Step.len);exact rfl;((assumption));((decide +kernel));exact rfl))|((with_reducible apply AW.drawT fit (T := (.step 0 (.step 1 (.step 3 (.both (.step 2 (.step 4 (.step 5 (.step 6 (.step 7 (.step 8 .done)))))) (.step 4 (.step 5 (.step 2 (.step 6 (.step 7 (.step 8 .done))))))))))));((decide +kernel)))|((with_reducible apply AWt.step);exact rfl)|refine AWt.both ?_ ?_))
   all_goals
    ((with_reducible apply Step.callF fit);exact rfl;exact Try.func96;exact rfl;exact rfl;((rw [List.append_nil];exact put_ok (b0 := M1.length) (l := []) (s := 8) Row.nil (Nat.le_refl _) (by simp) hg (by omega))))
    rintro r2 M2 ⟨hr2, ha2⟩
    rw [List.nil_append] at hr2
    obtain ⟨N2, hN2⟩ := Add.grow (M1 := M1) ⟨[], by simp⟩ (Row.nil (s := 1)) ha2
    have hr2' := fun T => hrd M2 T ⟨N2, hN2⟩
    rw [← List.append_nil M2]
    (repeat' (first|((with_reducible refine Step.id ?_);first|((with_reducible apply Step.load);exact rfl;((decide +kernel));exact rfl;((exact (hr2' _).2.2)))|((with_reducible apply Step.len);exact rfl;((assumption));((decide +kernel));exact rfl))|((with_reducible apply AWt.step);exact rfl)))
    ((with_reducible apply Step.callF fit);exact rfl;exact Try.func96;exact rfl;exact rfl;((rw [List.append_nil];exact put_ok (b0 := M1.length) (l := be c.gen 8) (s := 4) hr2 (by rw [hN2, List.length_append];omega) (by rw [be_len];omega) (by omega) (by omega))))
    rintro r3 M3 ⟨hr3, ha3⟩
    obtain ⟨N3, hN3⟩ := Add.grow ⟨N2, hN2⟩ hr2 ha3
    have hM3l : M1.length ≤ M3.length := by rw [hN3, List.length_append]; omega
    rw [← List.append_nil M3]
    (repeat' (((with_reducible apply AWt.step);exact rfl)))
    ((with_reducible apply Step.callF fit);exact rfl;exact Try.func70;exact rfl;exact rfl;((rw [List.append_nil];exact frame_ok (b0 := M3.length) (b := []) (p := be c.gen 8 ++ be c.recs.length 4) Row.nil (Nat.le_refl _) (fun M r h => Byts.add hr3 ⟨[], by simp⟩ (Row.nil (s := 1)) h (by omega)) (by simp [be_len]))))
    rintro r4 M4 ⟨hr4, ha4⟩
    rw [List.nil_append] at hr4
    change Row M4 M3.length 1 r4 (by8 (frB (hdB c))) (frB (hdB c)).length at hr4
    obtain ⟨N4, hN4⟩ := Add.grow (M1 := M3) ⟨[], by simp⟩ (Row.nil (s := 1)) ha4
    rw [← List.append_nil M4]
    (repeat' (first|((with_reducible refine Step.id ?_);((with_reducible apply Step.assign);exact rfl;exact rfl))|(with_reducible apply Then.n)|((with_reducible apply AWt.step);exact rfl)|(with_reducible apply AWt.done)))
    exact ⟨r4, by rw [List.append_nil]; exact hr4.low hM3l, ⟨N3 ++ N4, by rw [List.append_nil, hN4, hN3, List.append_assoc]⟩, (by repeat (first | exact trivial | (refine And.intro rfl ?_)))⟩
  ·rintro t' M4 ⟨r4, hr4l, hM4, hsl4⟩
   refine AW.weak (fr_all hsl4) ?_
   clear hsl4
   have hr4' := fun T => hrd M4 T hM4
   have hhl := hdB_len c
   have hel1 : (encB c).length = (frB (hdB c)).length + (frB c.snap).length + (c.recs.flatMap frB).length := by simp [encB]; omega
   have hfl1 := frB_len (hdB c)
   have hfl2 := frB_len c.snap
   rw [← List.append_nil M4]
   (repeat (first|(with_reducible refine AWo.cons ?_)|((with_reducible refine Step.id ?_);first|((with_reducible apply Step.move);exact rfl;exact rfl)|((with_reducible apply Step.load);exact rfl;((decide +kernel));exact rfl;((exact (hr4' _).2.1)))|((with_reducible apply Step.field (k := 1));exact rfl;((decide +kernel));exact rfl))|(with_reducible first|apply AW.seq|apply AW.regL)))
   ((with_reducible apply Step.callF fit);exact rfl;exact Try.func70;exact rfl;exact rfl;((rw [List.append_nil];exact frame_ok (b0 := M1.length) (b := frB (hdB c)) (p := c.snap) hr4l (by obtain ⟨N, hN⟩ := hM4;rw [hN, List.length_append];omega) (fun M r h => Byts.add hsn hM4 hr4l h h1) (by omega))))
   rintro r5 M5 ⟨hr5, ha5⟩
   have hM5 := Add.grow hM4 hr4l ha5
   have hr5' := fun T => hrd M5 T hM5
   rw [← List.append_nil M5]
   (repeat (first|(with_reducible refine AWo.cons ?_)|((with_reducible refine Step.id ?_);first|((with_reducible apply Step.move);exact rfl;exact rfl)|((with_reducible apply Step.assign);exact rfl;exact rfl)|((with_reducible apply Step.load);exact rfl;((decide +kernel));exact rfl;((exact (hr5' _).2.2)))|((with_reducible apply Step.field (k := 2));exact rfl;((decide +kernel));exact rfl)|((with_reducible apply Step.len);exact rfl;((assumption));((decide +kernel));exact rfl))|(with_reducible first|apply AWo.nil|apply AW.seq|apply Then.n|apply AW.regL|apply AW.block)))
   refine AW.midX 0 (fun t' M => ∃ r, Row M M1.length 1 r (by8 (encB c)) (encB c).length ∧ (∃ N, M = M1 ++ N) ∧ All (fun i v => t' i = some v) [(1, .pointer (some ⟨dk, 0, none⟩)), (2, .int .i64 n), (8, r)]) ?_ ?_
   ·refine AW.loopW (fun q t M => ∃ (k : Nat) (r : Value), q = c.recs.length - k ∧ k ≤ c.recs.length ∧ Row M M1.length 1 r (by8 (frB (hdB c) ++ frB c.snap ++ (c.recs.take k).flatMap frB)) (frB (hdB c) ++ frB c.snap ++ (c.recs.take k).flatMap frB).length ∧ (∃ N, M = M1 ++ N) ∧
     t = fr [(1, .pointer (some ⟨dk, 0, none⟩)), (2, .int .i64 n), (8, r), (31, rv), (32, .int .i64 (c.recs.length : Nat)), (33, .int .i64 (k : Nat))]) ⟨_, _, (by repeat (first | exact trivial | (refine And.intro rfl ?_))), 0, r5, rfl, Nat.zero_le _, by rw [List.append_nil]; simpa using hr5, by rw [List.append_nil]; exact hM5, rfl⟩ ?_
    rintro q t M ⟨k, r, rfl, hk, hrk, hMk, rfl⟩
    rcases Nat.lt_or_ge k c.recs.length with hlt | hge
    ·obtain ⟨uk, w1, w2, w3⟩ := hel k hlt
     have rk : ∀ T, Rd (M ++ T) ar (orr + k) uk := fun T => Rd.old T (by
      obtain ⟨N, rfl⟩ := hMk
      obtain ⟨b, x1, x2⟩ := hrd3 (by omega)
      exact ⟨b, get_old N (vw_some.1 x1).2, x2 k uk w1⟩)
     have hsn2 : c.recs.take (k + 1) = c.recs.take k ++ [c.recs.getD k []] := by rw [List.take_succ_eq_append_getElem hlt]; simp [hlt]
     have hft := flat_take frB c.recs (k + 1)
     rw [hsn2] at hft
     have hfr := frB_len (c.recs.getD k [])
     simp only [List.flatMap_append, List.flatMap_cons, List.flatMap_nil, List.append_nil, List.length_append] at hft
     have hbl : (frB (hdB c) ++ frB c.snap ++ (c.recs.take k).flatMap frB).length = (frB (hdB c)).length + (frB c.snap).length + ((c.recs.take k).flatMap frB).length := by simp only [List.length_append]
     have hw2 := w2.vwM
     generalize c.recs.getD k [] = rec at *
     refine AW.rebase ?_
     (repeat (first|(with_reducible refine AWo.cons ?_)|((with_reducible refine Step.id ?_);first|((with_reducible apply Step.move);exact rfl;exact rfl)|((with_reducible apply Step.assign);exact rfl;exact rfl)|((with_reducible apply Step.load);exact rfl;((decide +kernel));exact rfl;((exact rk _)))|((with_reducible apply Step.ix1);exact rfl;((assumption));exact rfl;((decide +kernel));exact rfl;((omega)))|((with_reducible apply Step.lss);exact rfl;exact rfl;exact rfl))|(with_reducible first|apply AWo.nil|apply AW.seq|apply Then.n|apply AW.regL|apply AW.block|apply AW.skip)|((with_reducible apply AW.condT);exact rfl;(((simp only [zq1, zq2, zq3, zq4, zq5, zq6];first|assumption|omega))))))
     ((with_reducible apply Step.callF fit);exact rfl;exact Try.func70;exact rfl;exact rfl;((rw [List.append_nil];exact frame_ok (b0 := M1.length) (p := rec) hrk (by obtain ⟨N, hN⟩ := hMk;rw [hN, List.length_append];omega) (fun M r h => Byts.add hw2 hMk hrk h h1) (by omega))))
     rintro r6 M6 ⟨hr6, ha6⟩
     have hM6 := Add.grow hMk hrk ha6
     rw [← List.append_nil M6]
     (repeat (first|(with_reducible refine AWo.cons ?_)|((with_reducible refine Step.id ?_);first|((with_reducible apply Step.move);exact rfl;exact rfl)|((with_reducible apply Step.assign);exact rfl;exact rfl)|((with_reducible apply Step.add);exact rfl;exact rfl;((omega));exact rfl))|(with_reducible first|apply AWo.nil|apply Then.n|apply AW.regL|apply InBlk.n)))
     exact ⟨_, [(1, .pointer (some ⟨dk, 0, none⟩)), (2, .int .i64 n), (8, r6), (31, rv), (32, .int .i64 (c.recs.length : Nat)), (33, .int .i64 (k + 1 : Nat))], by omega, (by repeat (first | exact trivial | (refine And.intro rfl ?_))), k + 1, r6, rfl, by omega, by rw [List.append_nil, hsn2]; simpa using hr6, by rw [List.append_nil]; exact hM6, rfl⟩
    ·obtain rfl : k = c.recs.length := by omega
     rw [List.take_of_length_le (Nat.le_refl _)] at hrk
     refine AW.rebase ?_
     (repeat (first|(with_reducible refine AWo.cons ?_)|((with_reducible refine Step.id ?_);((with_reducible apply Step.lss);exact rfl;exact rfl;exact rfl))|(with_reducible first|apply AWo.nil|apply AW.seq|apply Then.n|apply AW.regL|apply AW.exit|apply Then.e)|((with_reducible apply AW.condF);exact rfl;(((simp only [zq1, zq2, zq3, zq4, zq5, zq6];first|assumption|omega))))))
     exact ⟨rfl, r, by rw [List.append_nil]; exact hrk, by rw [List.append_nil]; exact hMk, (by repeat (first | exact trivial | (refine And.intro rfl ?_)))⟩
   ·rintro t' M ⟨r, hrE, hME, hsl5⟩
    refine InBlk.hit ?_
    refine Then.n ?_
    refine AW.weak (fr_all hsl5) ?_
    clear hsl5
    obtain ⟨N, rfl⟩ := hME
    have hDM := hD1.old N
    have hml := hD1.lt
    have hMl : (M1 ++ N).length = M1.length + N.length := List.length_append
    refine AW.rebase ?_
    (repeat (first|(with_reducible refine AWo.cons ?_)|((with_reducible refine Step.id ?_);((with_reducible apply Step.move);exact rfl;exact rfl))|(with_reducible first|apply AW.seq|apply AW.regL)))
    ((with_reducible apply Step.callF fit);exact rfl;exact Try.func48;exact rfl;exact rfl;((rw [List.append_nil];exact DAppend_ok (p := encB c) n hDM (by omega) (fun M' hk => (Row.keep hrE fun j hj hn => hk.get j hj (fun e => by have := hrE.ge_of hn;omega)).byts (by have := hk.len;omega)) (by omega))))
    rintro r7 M7 ⟨rfl, hQ7⟩
    have hQ7' := DkQ.next hk1 hf1 (DkQ.after (Keep.app _ M1 N) hQ7)
    by_cases z2 : (apF (clF D n).2 n (encB c)).1 = 0
    ·rw [if_neg (fun e => e z2), z2]
     obtain ⟨w0, w1, hD7, hk7, hf7⟩ := hQ7'
     rw [← List.append_nil M7]
     (repeat (first|(with_reducible refine AWo.cons ?_)|((with_reducible refine Step.id ?_);first|((with_reducible apply Step.move);exact rfl;exact rfl)|((with_reducible apply Step.assign);exact rfl;exact rfl)|((with_reducible apply Step.neq);exact rfl;exact rfl;exact rfl))|(with_reducible first|apply AWo.nil|apply AW.seq|apply Then.n|apply AW.regL|apply AW.skip)|((with_reducible apply AW.condF);exact rfl;((rfl)))))
     ((with_reducible apply Step.callF fit);exact rfl;exact Try.func66;exact rfl;exact rfl;((rw [List.append_nil];exact DSync_ok n hD7)))
     rintro r8 M8 ⟨rfl, hQ8⟩
     rw [← List.append_nil M8]
     (repeat (first|(with_reducible refine AWo.cons ?_)|((with_reducible refine Step.id ?_);((with_reducible apply Step.assign);exact rfl;exact rfl))|(with_reducible first|apply AWo.nil|apply Then.n)))
     (refine AW.ret ?_; (repeat (first | refine Then.r ?_ | refine InBlk.r ?_)))
     rw [List.append_nil]
     exact ⟨_, rfl, rfl, DkQ.after hkXm (DkQ.next hk7 hf7 hQ8)⟩
    ·rw [if_pos z2]
     generalize (apF (clF D n).2 n (encB c)).1 = e2 at *
     rw [← List.append_nil M7]
     (repeat (first|(with_reducible refine AWo.cons ?_)|((with_reducible refine Step.id ?_);first|((with_reducible apply Step.move);exact rfl;exact rfl)|((with_reducible apply Step.assign);exact rfl;exact rfl)|((with_reducible apply Step.neq);exact rfl;exact rfl;exact rfl))|(with_reducible first|apply AWo.nil|apply AW.seq|apply Then.n|apply AW.regL)|((with_reducible apply AW.condT);exact rfl;(((simp only [zq1, zq2, zq3, zq4, zq5, zq6];first|assumption|omega))))))
     (refine AW.ret ?_; (repeat (first | refine Then.r ?_ | refine InBlk.r ?_)))
     rw [List.append_nil]
     exact ⟨_, rfl, rfl, DkQ.after hkXm hQ7'⟩
 ·rw [if_pos z1]
  generalize (clF D n).1 = e1 at *
  rw [← List.append_nil M1]
  (repeat (first|(with_reducible refine AWo.cons ?_)|((with_reducible refine Step.id ?_);first|((with_reducible apply Step.move);exact rfl;exact rfl)|((with_reducible apply Step.assign);exact rfl;exact rfl)|((with_reducible apply Step.neq);exact rfl;exact rfl;exact rfl))|(with_reducible first|apply AWo.nil|apply AW.seq|apply Then.n|apply AW.regL)|((with_reducible apply AW.condT);exact rfl;(((simp only [zq1, zq2, zq3, zq4, zq5, zq6];first|assumption|omega))))))
  (refine AW.ret ?_; (repeat (first | refine Then.r ?_ | refine InBlk.r ?_)))
  rw [List.append_nil]
  exact ⟨_, rfl, rfl, DkQ.after hkXm hQ1'⟩
theorem be_numB (l : List UInt8) : be (numB l) l.length = l := be_fold l 0
theorem frB_take4 (p t : List UInt8) : (frB p ++ t).take 4 = be p.length 4 := by
 unfold frB
 rw [List.append_assoc, List.append_assoc, List.take_append_of_le_length (by rw [be_len]; omega), List.take_of_length_le (by rw [be_len]; omega)]
theorem numB_len4 {n : Nat} (h : n ≤ 65536) : numB (be n 4) = n := numB_be 4 n (by omega)
theorem frB_mid (p t : List UInt8) : ((frB p ++ t).drop 4).take p.length = p := by
 unfold frB
 rw [List.append_assoc, List.append_assoc, List.drop_append_of_le_length (by rw [be_len]; omega), List.drop_eq_nil_of_le (by rw [be_len]; omega), List.nil_append, List.take_append_of_le_length (Nat.le_refl _), List.take_length]
theorem frB_crc (p t : List UInt8) : ((frB p ++ t).drop (4 + p.length)).take 4 = be (crc p) 4 := by
 unfold frB
 rw [List.append_assoc, List.drop_append, List.drop_eq_nil_of_le (by simp [be_len]), List.nil_append, show 4 + p.length - (be p.length 4 ++ p).length = 0 by simp [be_len], List.drop_zero, List.take_append_of_le_length (by rw [be_len]; omega), List.take_of_length_le (by rw [be_len]; omega)]
theorem frB_rest (p t : List UInt8) : (frB p ++ t).drop (8 + p.length) = t := by
 rw [List.drop_append, List.drop_eq_nil_of_le (by rw [frB_len]; omega), List.nil_append, frB_len, show 8 + p.length - (p.length + 8) = 0 by omega, List.drop_zero]
theorem frStep_frB {p : List UInt8} (h : p.length ≤ 65536) (t : List UInt8) : frStep (frB p ++ t) = some (p, t) := by
 have hl : (frB p ++ t).length = p.length + 8 + t.length := by rw [List.length_append, frB_len]
 have hc := crc_lt p
 unfold frStep
 rw [if_neg (by omega), frB_take4, numB_len4 h, if_neg (by omega), if_neg (by omega), frB_crc, frB_mid, frB_rest, numB_be 4 _ (by omega), if_pos rfl]
theorem frStep_eq {l p r : List UInt8} (h : frStep l = some (p, r)) : l = frB p ++ r ∧ p.length ≤ 65536 := by
 unfold frStep at h
 split at h
 ·cases h
 rename_i h8
 split at h
 ·cases h
 rename_i h6
 split at h
 ·cases h
 rename_i hn
 split at h
 ·rename_i hc
  simp only [Option.some.injEq, Prod.mk.injEq] at h
  obtain ⟨rfl, rfl⟩ := h
  generalize hnn : numB (l.take 4) = n at *
  have hpl : ((l.drop 4).take n).length = n := by rw [List.length_take, List.length_drop]; omega
  refine ⟨?_, by omega⟩
  unfold frB
  rw [hpl, ← hc]
  have e1 : be n 4 = l.take 4 := by
   have := be_numB (l.take 4)
   rw [hnn, show (l.take 4).length = 4 by rw [List.length_take]; omega] at this
   exact this
  have e2 : be (numB ((l.drop (4 + n)).take 4)) 4 = (l.drop (4 + n)).take 4 := by
   have := be_numB ((l.drop (4 + n)).take 4)
   rw [show ((l.drop (4 + n)).take 4).length = 4 by rw [List.length_take, List.length_drop]; omega] at this
   exact this
  rw [e1, e2]
  have d1 : l.drop (4 + n) = (l.drop 4).drop n := by rw [List.drop_drop]
  have d2 : l.drop (8 + n) = (l.drop (4 + n)).drop 4 := by rw [List.drop_drop]; congr 1; omega
  rw [d2, List.append_assoc, List.append_assoc, List.take_append_drop, d1, List.take_append_drop, List.take_append_drop]
 ·cases h
theorem frN_eq : ∀ (k : Nat) (l : List UInt8), l = (frN k l).1.flatMap frB ++ (frN k l).2 ∧ ∀ p ∈ (frN k l).1, p.length ≤ 65536
 | 0, l => ⟨by simp [frN], fun p hp => by simp [frN] at hp⟩
 | k + 1, l => by
  unfold frN
  cases hs : frStep l with
  | none => exact ⟨by simp, fun p hp => by simp at hp⟩
  | some x =>
   obtain ⟨p, r⟩ := x
   obtain ⟨e1, e2⟩ := frStep_eq hs
   obtain ⟨i1, i2⟩ := frN_eq k r
   refine ⟨?_, fun q hq => ?_⟩
   ·simp only [List.flatMap_cons]
    rw [List.append_assoc, ← i1]
    exact e1
   ·rcases List.mem_cons.1 hq with rfl | hq
    ·exact e2
    ·exact i2 q hq
theorem frames_eq (l : List UInt8) : l = (frames l).1.flatMap frB ++ (frames l).2 ∧ ∀ p ∈ (frames l).1, p.length ≤ 65536 := frN_eq _ _
theorem frames_cons {p : List UInt8} (h : p.length ≤ 65536) (t : List UInt8) : frames (frB p ++ t) = (p :: (frames t).1, (frames t).2) := frames_some (frStep_frB h t)
theorem frames_app : ∀ (ps : List (List UInt8)) (t : List UInt8), (∀ p ∈ ps, p.length ≤ 65536) → frames (ps.flatMap frB ++ t) = (ps ++ (frames t).1, (frames t).2)
 | [], t, _ => by simp
 | p :: ps, t, h => by
  rw [List.flatMap_cons, List.append_assoc, frames_cons (h p List.mem_cons_self), frames_app ps t fun q hq => h q (List.mem_cons_of_mem _ hq)]
  rfl
theorem encB_len (c : Cont) : (encB c).length = 20 + (c.snap.length + 8) + (c.recs.flatMap frB).length := by
 simp only [encB, List.length_append, frB_len, hdB_len]
theorem parseF_len {l : List UInt8} {c : Cont} {n : Nat} (h : parseF l = some (c, n)) : (encB c).length + n = l.length ∧ 1 ≤ c.gen ∧ c.gen ≤ 4611686018427387904 ∧ c.snap.length ≤ 65536 ∧ (∀ p ∈ c.recs, p.length ≤ 65536) := by
 obtain ⟨e1, e2⟩ := frames_eq l
 unfold parseF at h
 generalize hp : (frames l).1 = ps at *
 match ps, h with
 | h0 :: s :: rs, h =>
  simp only at h
  split at h
  ·rename_i hc
   simp only [Option.some.injEq, Prod.mk.injEq] at h
   obtain ⟨rfl, rfl⟩ := h
   have := congrArg List.length e1
   simp only [List.flatMap_cons, List.length_append, frB_len] at this
   refine ⟨?_, hc.2.1, hc.2.2.1, e2 s (by simp), fun p hp => e2 p (by simp [hp])⟩
   rw [encB_len]
   simp only
   have h12 := hc.1
   omega
  ·cases h
theorem flat_cnt (ps : List (List UInt8)) : ps.length * 8 ≤ (ps.flatMap frB).length := by
 induction ps with
 | nil => simp
 | cons p ps ih =>
  simp only [List.flatMap_cons, List.length_append, frB_len, List.length_cons]
  omega
theorem parseF_enc {c : Cont} (h1 : 1 ≤ c.gen) (h2 : c.gen ≤ 4611686018427387904) (hs : c.snap.length ≤ 65536) (hr : ∀ p ∈ c.recs, p.length ≤ 65536) (hc : c.recs.length ≤ 4000000000) (t : List UInt8) (ht : ∀ p ∈ (frames t).1, True) : parseF (encB c ++ t) = some (⟨c.gen, c.snap, c.recs ++ (frames t).1⟩, (frames t).2.length) := by
 have hh := hdB_len c
 have e : frames (encB c ++ t) = (hdB c :: c.snap :: (c.recs ++ (frames t).1), (frames t).2) := by
  have : encB c ++ t = (hdB c :: c.snap :: c.recs).flatMap frB ++ t := by simp [encB]
  rw [this, frames_app _ t]
  ·rfl
  ·intro p hp
   rcases List.mem_cons.1 hp with rfl | hp
   ·omega
   ·rcases List.mem_cons.1 hp with rfl | hp
    ·exact hs
    ·exact hr p hp
 have ht8 : (hdB c).take 8 = be c.gen 8 := by
  unfold hdB
  rw [List.take_append_of_le_length (by rw [be_len]; omega), List.take_of_length_le (by rw [be_len]; omega)]
 have hd8 : (hdB c).drop 8 = be c.recs.length 4 := by
  unfold hdB
  rw [List.drop_append_of_le_length (by rw [be_len]; omega), List.drop_eq_nil_of_le (by rw [be_len]; omega), List.nil_append]
 have n1 : numB (be c.gen 8) = c.gen := numB_be 8 _ (by omega)
 have n2 : numB (be c.recs.length 4) = c.recs.length := numB_be 4 _ (by omega)
 unfold parseF
 rw [e]
 simp only
 rw [ht8, hd8, n1, n2, if_pos ⟨hh, h1, h2, by rw [List.length_append]; omega⟩]
def nxF (x : Option (Cont × Nat × Bool)) (n : Nat) : Option (Cont × Nat) → Option (Cont × Nat × Bool)
 | none => x
 | some (c, r) => match x with
  | some (c0, n0, t) => if c0.gen < c.gen then some (c, n, decide (0 < r)) else some (c0, n0, t)
  | none => some (c, n, decide (0 < r))
def pick0 (D : Dk) : Option (Cont × Nat × Bool) := nxF none 0 (parseF D.a0.b)
def pickF (D : Dk) : Option (Cont × Nat × Bool) := nxF (pick0 D) 1 (parseF D.a1.b)
theorem nxF_cases {x : Option (Cont × Nat × Bool)} {n : Nat} {y : Option (Cont × Nat)} {z : Cont × Nat × Bool} (h : nxF x n y = some z) : x = some z ∨ ∃ c r, y = some (c, r) ∧ z = (c, n, decide (0 < r)) := by
 cases y with
 | none => exact .inl h
 | some y =>
  obtain ⟨c, r⟩ := y
  cases x with
  | none => injection h with h; exact .inr ⟨c, r, rfl, h.symm⟩
  | some x =>
   obtain ⟨c0, n0, t⟩ := x
   unfold nxF at h
   simp only at h
   split at h
   ·injection h with h; exact .inr ⟨c, r, rfl, h.symm⟩
   ·exact .inl h
def wrO (D : Dk) (c : Cont) (n : Nat) : Int × Option (Cont × Nat) × Dk := if (wrF D (n : Nat) c).1 = 0 then (0, some (c, n), (wrF D (n : Nat) c).2) else ((wrF D (n : Nat) c).1, none, (wrF D (n : Nat) c).2)
def openF (D : Dk) : Int × Option (Cont × Nat) × Dk :=
 if D.off = true then (14, none, D) else match pickF D with
 | none => wrO D ⟨1, [], []⟩ 0
 | some (c, n, true) => if c.gen = 4611686018427387904 then (5, none, D) else wrO D ⟨c.gen + 1, c.snap, c.recs⟩ (1 - n)
 | some (c, n, false) => (0, some (c, n), D)
structure Lg where
 c : Cont
 at_ : Nat
 down : Bool
def lgc (g : Int) (sv rv : Value) (dk : Nat) (a : Int) (d : Bool) : List Value := [.int .i64 g, sv, rv, .pointer (some ⟨dk, 0, none⟩), .int .i64 a, .bool d]
structure LogAt (M : AM) (lg dk : Nat) (L : Lg) (sv rv : Value) : Prop where
 cells : M[lg]? = some (some { cells := lgc (L.c.gen : Nat) sv rv dk (L.at_ : Nat) L.down })
 cont : ContAt M (lg + 1) sv rv L.c
 lb : dk < M.length
 a2 : L.at_ < 2
theorem LogAt.msub {M M' : AM} {lg dk : Nat} {L : Lg} {sv rv : Value} (h : LogAt M lg dk L sv rv) (hs : MSub M M') : LogAt M' lg dk L sv rv := ⟨hs.get _ _ rfl h.cells, h.cont.msub hs, by have := h.lb; have := hs.len; omega, h.a2⟩
def OpQ (o : Int × Option (Cont × Nat) × Dk) (b0 dk : Nat) (u0 u1 : Value) (m : AM) (r : Value) (M : AM) : Prop :=
 (o.2.1 = none ∧ r = .tuple #[.pointer none, .int .i64 o.1] ∧ o.1 ≠ 0 ∧ DkQ o.2.2 b0 dk u0 u1 m M) ∨
 ∃ (c : Cont) (n lg : Nat) (w0 w1 sv rv : Value) (S : Nat → Prop), o.2.1 = some (c, n) ∧ o.1 = 0 ∧ r = .tuple #[.pointer (some ⟨lg, 0, none⟩), .int .i64 0] ∧ DiskAt M b0 dk o.2.2 w0 w1 ∧ Keep (dkD dk u0 u1) m M ∧ (∀ j, j < m.length → ¬ dkD dk u0 u1 j → ¬ dkD dk w0 w1 j) ∧
   LogAt (vw S M) lg dk ⟨c, n, false⟩ sv rv ∧ ∀ j, S j → m.length ≤ j ∧ ¬ dkD dk w0 w1 j
theorem pick_ok {D : Dk} {c : Cont} {n : Nat} {t : Bool} (h : pickF D = some (c, n, t)) : ∃ r, parseF (D.ar n).b = some (c, r) ∧ n < 2 ∧ t = decide (0 < r) := by
 rcases nxF_cases h with h | ⟨c', r, e, h⟩
 ·rcases nxF_cases h with h | ⟨c', r, e, h⟩
  ·cases h
  ·simp only [Prod.mk.injEq] at h
   obtain ⟨rfl, rfl, rfl⟩ := h
   exact ⟨r, e, by omega, rfl⟩
 ·simp only [Prod.mk.injEq] at h
  obtain ⟨rfl, rfl, rfl⟩ := h
  exact ⟨r, e, by omega, rfl⟩
theorem bl126 {d : Nat} {n : Int} : abuild Try.prog 126 [(1, .pointer (some ⟨d, 0, none⟩)), (2, .int .i64 n)] = some (.agg #[.int .i64 0, .slice none 0 0, .slice none 0 0, .pointer (some ⟨d, 0, none⟩), .int .i64 n, .bool false]) := by kernel_rfl
def pkc (dk : Nat) (sv rv : Value) : Option (Cont × Nat × Bool) → List Value
 | none => lgc 0 (.slice none 0 0) (.slice none 0 0) dk (-1) false
 | some (c, n, _) => lgc (c.gen : Nat) sv rv dk (n : Nat) false
def pkT : Option (Cont × Nat × Bool) → Bool
 | none => false
 | some (_, _, t) => t
theorem ContAt.keep {M M' : AM} {b0 : Nat} {sv rv : Value} {c : Cont} (h : ContAt M b0 sv rv c) (hk : ∀ j b, M[j]? = some (some b) → b0 ≤ j → b.kind.mine = true → M'[j]? = some (some b)) : ContAt M' b0 sv rv c := by
 refine ⟨?_, h.recs.keep hk, h.sep⟩
 rcases h.snap with h1 | ⟨a, kd, sz, w1, w2, w3, w4, w5⟩
 ·exact .inl h1
 ·exact .inr ⟨a, kd, sz, w1, w2, hk a _ w3 w1 (by rcases w5 with rfl | ⟨rfl, _⟩ <;> rfl), w4, w5⟩
theorem ContAt.set {M : AM} {lg : Nat} {b : Option Blk} {sv rv : Value} {c : Cont} (h : ContAt M (lg + 1) sv rv c) : ContAt (M.set lg b) (lg + 1) sv rv c := by
 have hk : ∀ j, lg + 1 ≤ j → (M.set lg b)[j]? = M[j]? := fun j hj => List.getElem?_set_ne (by omega)
 exact ⟨Row.keep h.snap fun j _ hn => hk j (h.snap.ge_of hn), h.recs.keep fun j b hb hj _ => by rw [hk j hj]; exact hb, h.sep⟩
theorem ContAt.old {M : AM} {b0 : Nat} {sv rv : Value} {c : Cont} (h : ContAt M b0 sv rv c) (T : AM) : ContAt (M ++ T) b0 sv rv c := h.msub (Sub.app M T).m
def stF (D : Dk) : Nat → Option (Cont × Nat × Bool)
 | 0 => none
 | 1 => pick0 D
 | _ => pickF D
theorem stF_succ (D : Dk) {n : Nat} (hn : n < 2) : stF D (n + 1) = nxF (stF D n) n (parseF (D.ar n).b) := by
 rcases (show n = 0 ∨ n = 1 by omega) with rfl | rfl <;> rfl
theorem SlV.all3 {g : Int} {a b : Value} (ha : SlV a) (hb : SlV b) : ([.int .i64 g, a, b] : List Value).all (·.oneCell') = true := by
 rw [List.all_cons, List.all_cons, List.all_cons, ha.one.1, hb.one.1]; rfl
theorem SlV.agg3 {g : Int} {a b : Value} (ha : SlV a) (hb : SlV b) : (Value.agg #[.int .i64 g, a, b]).cells.all (·.oneCell') = true := by
 show (#[Value.int .i64 g, a, b]).all (·.oneCell') = true
 simp only [← Array.all_toList]
 exact SlV.all3 ha hb
def MidR (id : Nat) (Mid : Fm → AM → Prop) (Q : AEx → Fm → AM → Prop) : AEx → Fm → AM → Prop
 | .exit i, t, m => i = id ∧ Mid t m
 | .ret, t, m => Q .ret t m
 | .normal, _, _ => False
theorem MidR.r {id : Nat} {Mid : Fm → AM → Prop} {Q : AEx → Fm → AM → Prop} {t : Fm} {m : AM} (h : Q .ret t m) : MidR id Mid Q .ret t m := h
theorem MidR.e {id : Nat} {Mid : Fm → AM → Prop} {Q : AEx → Fm → AM → Prop} {t : Fm} {m : AM} (h : Mid t m) : MidR id Mid Q (.exit id) t m := ⟨rfl, h⟩
theorem AW.midR {P : Program} {nt : Nat} {m m0 : AM} {t : Fm} {c : Code} {Q : AEx → Fm → AM → Prop} (id : Nat) (Mid : Fm → AM → Prop) (h : AW P nt m0 c t m (MidR id Mid Q)) (h2 : ∀ t' m', Mid t' m' → Q (.exit id) t' m') : AW P nt m0 c t m Q :=
 h.mono fun e t' m' he => by
  cases e with
  | normal => exact he.elim
  | exit i => obtain ⟨rfl, he⟩ := he; exact h2 t' m' he
  | ret => exact he
theorem bl124o {g : Int} : abuild Try.prog 124 [(0, .int .i64 g)] = some (.agg #[.int .i64 g, .slice none 0 0, .slice none 0 0]) := by kernel_rfl
theorem ContAt.none {M : AM} {b0 : Nat} {g : Nat} : ContAt M b0 (.slice none 0 0) (.slice none 0 0) ⟨g, [], []⟩ := ⟨Row.nil, PaysS.nil, fun _ h => absurd NotOf.nil h⟩
theorem ContAt.gen {M : AM} {b0 g : Nat} {sv rv : Value} {c : Cont} (h : ContAt M b0 sv rv c) : ContAt M b0 sv rv ⟨g, c.snap, c.recs⟩ := ⟨h.snap, h.recs, h.sep⟩
theorem PaysS.slv {M : AM} {b0 : Nat} {rv : Value} {ps : List (List UInt8)} (h : PaysS M b0 rv ps) : SlV rv := by
 obtain ⟨pc, w1, _⟩ := h
 exact w1.slv
theorem WrQ.open {m W M : AM} {b0 dk n : Nat} {D : Dk} {u0 u1 sv rv : Value} {c : Cont} {N : AM} (h : DiskAt m b0 dk D u0 u1) (hW : W = m ++ N) (hlg : W[m.length]? = some (some { cells := lgc (c.gen : Nat) sv rv dk (n : Nat) false })) (hct : ContAt W (m.length + 1) sv rv c) (hn : n < 2)
  (hq : DkQ (wrF D (n : Nat) c).2 b0 dk u0 u1 W M) (he : (wrF D (n : Nat) c).1 = 0) : OpQ (wrO D c n) b0 dk u0 u1 m (.tuple #[.pointer (some ⟨m.length, 0, none⟩), .int .i64 0]) M := by
 have hq2 := DkQ.after (Keep.app _ m N) (by rw [← hW]; exact hq)
 obtain ⟨w0, w1, a1, a2, a3⟩ := hq2
 obtain ⟨x0, x1, b1, b2, b3⟩ := hq
 have hnb : ∀ j, dkD dk u0 u1 j → j < m.length := fun j hj => by
  obtain ⟨_, b, hb, _⟩ := h.at_ hj
  exact (List.getElem?_eq_some_iff.1 hb).1
 have hkeep : ∀ j, m.length ≤ j → j < W.length → M[j]? = W[j]? := fun j h1 h2 => b2.get j h2 fun e => by have := hnb j e; omega
 have hlw := (List.getElem?_eq_some_iff.1 hlg).1
 have hml := b2.len
 have hdl := h.lt
 unfold wrO
 rw [if_pos he]
 have hS : ∀ j b, W[j]? = some (some b) → m.length ≤ j → (vw (fun j => m.length ≤ j ∧ j < W.length ∧ ¬ dkD dk x0 x1 j) M)[j]? = some (some b) := fun j b hb hj => by
  have hl := (List.getElem?_eq_some_iff.1 hb).1
  exact vw_some.2 ⟨⟨hj, hl, b3 j hl fun e => by have := hnb j e; omega⟩, by rw [hkeep j hj hl]; exact hb⟩
 refine .inr ⟨c, n, m.length, x0, x1, sv, rv, _, rfl, rfl, rfl, b1, a2, fun j hj hnj => b3 j (by omega) hnj, ⟨hS _ _ hlg (Nat.le_refl _), hct.keep fun j b hb hj _ => hS j b hb (by omega), by rw [vw_len]; show dk < M.length; omega, hn⟩, fun j hj => ⟨hj.1, hj.2.2⟩⟩
theorem OpQ.err {D : Dk} {o : Int × Option (Cont × Nat) × Dk} {b0 dk : Nat} {u0 u1 : Value} {m M : AM} {e : Int} (ho : o = (e, none, D)) (he : e ≠ 0) (h : DkQ D b0 dk u0 u1 m M) : OpQ o b0 dk u0 u1 m (.tuple #[.pointer none, .int .i64 e]) M := by
 subst ho
 exact .inl ⟨rfl, rfl, he, h⟩
theorem wrO_bad {D : Dk} {c : Cont} {n : Nat} (h : (wrF D (n : Nat) c).1 ≠ 0) : wrO D c n = ((wrF D (n : Nat) c).1, none, (wrF D (n : Nat) c).2) := if_neg h
set_option maxHeartbeats 16000000 in
set_option maxRecDepth 100000 in
theorem Open_ok {m : AM} {b0 dk : Nat} {D : Dk} {u0 u1 : Value} (h : DiskAt m b0 dk D u0 u1) (hb0 : b0 ≤ m.length) : ACall Try.prog 50 #[.pointer (some ⟨dk, 0, none⟩)] m (OpQ (openF D) b0 dk u0 u1 m) := by
 have hdl := h.lt
 have hlo := h.ok.lo
 have hhi := h.ok.hi
 have r7 := fun T => h.rd T (0 + 7) _ rfl
 have hw1 : (Value.agg #[.int .i64 0, .slice none 0 0, .slice none 0 0, .pointer (some ⟨dk, 0, none⟩), .int .i64 (-1), .bool false]).cells.all (·.oneCell') = true := by simp [Value.cells, Value.oneCell']
 refine ACall.start Try.func50 rfl rfl ?_
 (repeat (first|(with_reducible refine AWo.cons ?_)|((with_reducible refine Step.id ?_);first|((with_reducible apply Step.gdT);exact rfl;exact rfl;((rfl)))|((with_reducible apply Step.move);exact rfl;exact rfl)|((with_reducible apply Step.assign);exact rfl;exact rfl)|((with_reducible apply Step.load);exact rfl;((decide +kernel));exact rfl;((exact r7 _)))|((with_reducible apply Step.field (k := 7));exact rfl;((decide +kernel));exact rfl)|((with_reducible apply Step.ptrNot);exact rfl;exact rfl;exact un36;exact rfl)|((with_reducible apply Step.eql);exact rfl;exact rfl;exact rfl)|((with_reducible apply Step.nilp);exact rfl;exact rfl)|((with_reducible apply Step.pickF);exact rfl;exact rfl;exact rfl;exact rfl;((rfl)))|((with_reducible apply Step.box 0);exact rfl;exact rfl;((first|assumption|exact hw1));exact rfl;((first|(simp only [zq7, zq8, zq9, zq0, iv_set, bv_set, iv_rep, bv_rep] <;> rfl)|rfl)))|((with_reducible apply Step.build);exact rfl;exact bl126;exact rfl))|(with_reducible first|apply AWo.nil|apply AW.seq|apply Then.n|apply AW.regL|apply AW.block|apply AW.skip)|((with_reducible apply AW.condF);exact rfl;(((simp only [zq1, zq2, zq3, zq4, zq5, zq6];first|assumption|omega))))))
 refine AW.midR 0 (fun t' M => ∃ (sv rv : Value), D.off = false ∧ (∃ N, M = m ++ N) ∧ M[m.length + 0]? = some (some { cells := pkc dk sv rv (pickF D) }) ∧ (∀ c k t, pickF D = some (c, k, t) → ContAt M (m.length + 1) sv rv c) ∧ All (fun i v => t' i = some v) [(0, .pointer (some ⟨dk, 0, none⟩)), (4, .pointer (some ⟨m.length + 0, 0, none⟩)), (5, .bool (pkT (pickF D)))]) ?_ ?_
 ·refine AW.loopW (fun q t M => ∃ (n : Nat) (sv rv : Value), q = 2 - n ∧ n ≤ 2 ∧ (0 < n → D.off = false) ∧ (∃ N, M = m ++ N) ∧ M[m.length + 0]? = some (some { cells := pkc dk sv rv (stF D n) }) ∧ (∀ c k t, stF D n = some (c, k, t) → ContAt M (m.length + 1) sv rv c) ∧
   t = fr [(0, .pointer (some ⟨dk, 0, none⟩)), (4, .pointer (some ⟨m.length + 0, 0, none⟩)), (5, .bool (pkT (stF D n))), (25, .int .i64 (n : Nat))]) ⟨_, _, (by repeat (first | exact trivial | (refine And.intro rfl ?_))), 0, .slice none 0 0, .slice none 0 0, rfl, Nat.zero_le _, fun e => absurd e (by omega), ⟨_, rfl⟩, by rw [get_app]; rfl, fun _ _ _ e => (by cases e), rfl⟩ ?_
  rintro q t M ⟨n, sv, rv, rfl, hn, hoff, ⟨N, rfl⟩, hlg, hct, rfl⟩
  refine AW.rebase ?_
  rcases Nat.lt_or_ge n 2 with hlt | hge
  ·have hS := stF_succ D hlt
   have hRd := DRead_ok (n : Nat) (h.old N)
   have hrdf : rdF D (n : Nat) = if D.off = true then ([], 14) else ((D.ar n).b, 0) := by
    unfold rdF
    rw [if_pos (show inA ((n : Nat) : Int) from ⟨by omega, by omega⟩)]
    rfl
   rw [hrdf] at hRd
   cases ho : D.off with
   | true =>
    rw [if_pos ho] at hRd
    simp only at hRd
    (repeat (first|(with_reducible refine AWo.cons ?_)|((with_reducible refine Step.id ?_);first|((with_reducible apply Step.move);exact rfl;exact rfl)|((with_reducible apply Step.assign);exact rfl;exact rfl)|((with_reducible apply Step.lss);exact rfl;exact rfl;exact rfl))|(with_reducible first|apply AWo.nil|apply AW.seq|apply Then.n|apply AW.regL|apply AW.block|apply AW.skip)|((with_reducible apply AW.condT);exact rfl;(((simp only [zq1, zq2, zq3, zq4, zq5, zq6];first|assumption|omega))))))
    ((with_reducible apply Step.callX fit);exact rfl;exact Try.func53;exact rfl;exact rfl;((rw [List.append_nil];exact hRd)))
    rintro r1 M1 ⟨N1, hN1⟩ ⟨ub, rfl, hub⟩
    rw [List.append_nil] at hN1
    (repeat (first|(with_reducible refine AWo.cons ?_)|((with_reducible refine Step.id ?_);first|((with_reducible apply Step.move);exact rfl;exact rfl)|((with_reducible apply Step.assign);exact rfl;exact rfl)|((with_reducible apply Step.neq);exact rfl;exact rfl;exact rfl)|((with_reducible apply Step.extract);exact rfl;exact rfl;exact rfl))|(with_reducible first|apply AWo.nil|apply AW.seq|apply Then.n|apply AW.regL)|((with_reducible apply AW.condT);exact rfl;((rfl)))))
    (refine AW.ret ?_; (repeat (first | refine Then.r ?_ | refine InBlk.r ?_)))
    have e : openF D = (14, none, D) := by unfold openF; rw [if_pos ho]
    have hq : OpQ (openF D) b0 dk u0 u1 m (.tuple #[.pointer none, .int .i64 14]) (M1 ++ []) := by
     unfold OpQ
     rw [e]
     exact .inl ⟨rfl, rfl, by show (14 : Int) ≠ 0; decide, by rw [hN1, List.append_nil, List.append_assoc]; exact DkQ.refl h _⟩
    refine MidR.r ?_
    exact ⟨_, rfl, hq⟩
   | false =>
    rw [if_neg (by rw [ho]; simp)] at hRd
    simp only at hRd
    (repeat (first|(with_reducible refine AWo.cons ?_)|((with_reducible refine Step.id ?_);first|((with_reducible apply Step.move);exact rfl;exact rfl)|((with_reducible apply Step.assign);exact rfl;exact rfl)|((with_reducible apply Step.lss);exact rfl;exact rfl;exact rfl))|(with_reducible first|apply AWo.nil|apply AW.seq|apply Then.n|apply AW.regL|apply AW.block|apply AW.skip)|((with_reducible apply AW.condT);exact rfl;(((simp only [zq1, zq2, zq3, zq4, zq5, zq6];first|assumption|omega))))))
    ((with_reducible apply Step.callX fit);exact rfl;exact Try.func53;exact rfl;exact rfl;((rw [List.append_nil];exact hRd)))
    rintro r1 M1 ⟨N1, hN1⟩ ⟨ub, rfl, hub⟩
    rw [List.append_nil] at hN1
    have hM1l : m.length + N.length ≤ M1.length := by rw [hN1]; simp only [List.length_append]; omega
    obtain ⟨ab, hbb, hab⟩ := hub.c.at8 (by omega)
    have hbl := (h.ok.arl n).1
    (repeat (first|(with_reducible refine AWo.cons ?_)|((with_reducible refine Step.id ?_);first|((with_reducible apply Step.move);exact rfl;exact rfl)|((with_reducible apply Step.assign);exact rfl;exact rfl)|((with_reducible apply Step.neq);exact rfl;exact rfl;exact rfl)|((with_reducible apply Step.extract);exact rfl;exact rfl;exact rfl))|(with_reducible first|apply AWo.nil|apply AW.seq|apply Then.n|apply AW.regL|apply AW.skip)|((with_reducible apply AW.condF);exact rfl;((rfl)))))
    ((with_reducible apply Step.callF fit);exact rfl;exact Try.func117;exact rfl;exact rfl;((rw [List.append_nil];exact parse_ok hbb hab (by omega))))
    rintro r2 M2 ⟨hpar, N2, hN2⟩
    have hlg2 : M2[m.length + 0]? = some (some { cells := pkc dk sv rv (stF D n) }) := by rw [hN2, hN1]; exact get_old N2 (get_old N1 hlg)
    have hM2 : M2 = m ++ (N ++ (N1 ++ N2)) := by rw [hN2, hN1]; simp only [List.append_assoc]
    have hM2l : M1.length ≤ M2.length := by rw [hN2, List.length_append]; omega
    have hct2 : ∀ c k t, stF D n = some (c, k, t) → ContAt M2 (m.length + 1) sv rv c := fun c k t e => by rw [hN2, hN1]; exact ((hct c k t e).old N1).old N2
    rcases hpar with ⟨hp0, rfl⟩ | ⟨c, r, sv', rv', hp1, rfl, hcc⟩
    ·have hw1 : (Value.agg #[.int .i64 0, .slice none 0 0, .slice none 0 0]).cells.all (·.oneCell') = true := SlV.agg3 (.inl rfl) (.inl rfl)
     have hS' : stF D (n + 1) = stF D n := by rw [hS, hp0]; rfl
     rw [← List.append_nil M2]
     (repeat (first|(with_reducible refine AWo.cons ?_)|((with_reducible refine Step.id ?_);first|((with_reducible apply Step.gdU);exact rfl;exact rfl)|((with_reducible apply Step.gdF);exact rfl;exact rfl;((rfl)))|((with_reducible apply Step.move);exact rfl;exact rfl)|((with_reducible apply Step.assign);exact rfl;exact rfl)|((with_reducible apply Step.add);exact rfl;exact rfl;((omega));exact rfl)|((with_reducible apply Step.extract);exact rfl;exact rfl;exact rfl)|((with_reducible apply Step.pickF);exact rfl;exact rfl;exact rfl;exact rfl;((rfl)))|((with_reducible apply Step.alloc 0);exact rfl;exact ze124;exact rfl;((first|(simp only [zq7, zq8, zq9, zq0, iv_set, bv_set, iv_rep, bv_rep] <;> rfl)|rfl)))|((with_reducible apply Step.storeA (k := 0) (n := 3));exact rfl;exact rfl;exact rfl;exact rfl;((decide +kernel));exact rfl;((first|assumption|exact hw1));exact rfl;((first|(simp only [zq7, zq8, zq9, zq0, iv_set, bv_set, iv_rep, bv_rep] <;> rfl)|rfl))))|(with_reducible first|apply AWo.nil|apply AW.seq|apply Then.n|apply AW.regL)|((with_reducible apply AW.drawL fit);((decide +kernel)))|(with_reducible first|apply InBlk.n|apply AW.skip)|((with_reducible apply AW.condF);exact rfl;((rfl)))))
     exact ⟨_, [(0, .pointer (some ⟨dk, 0, none⟩)), (4, .pointer (some ⟨m.length + 0, 0, none⟩)), (5, .bool (pkT (stF D n))), (25, .int .i64 (n + 1 : Nat))], by omega, (by repeat (first | exact trivial | (refine And.intro rfl ?_))), n + 1, sv, rv, rfl, by omega, fun _ => by first | exact ho | rfl, ⟨_, by rw [hM2, List.append_assoc]⟩, by rw [hS']; exact get_old _ hlg2, fun c k t e => (hct2 c k t (by rw [← hS']; exact e)).old _, by rw [hS']⟩
    ·have hs1 := hcc.snap.slv
     have hs2 : SlV rv' := by obtain ⟨pc, w1, _⟩ := hcc.recs; exact w1.slv
     have hw1 : (Value.agg #[.int .i64 (c.gen : Nat), sv', rv']).cells.all (·.oneCell') = true := SlV.agg3 hs1 hs2
     have hml1 : m.length + 1 ≤ M1.length := by
      have := (List.getElem?_eq_some_iff.1 hlg).1
      rw [List.length_append] at this
      omega
     have hccl := hcc.low hml1
     rw [← List.append_nil M2]
     cases hx : stF D n with
     | none =>
      rw [hx] at hlg2 hS
      change M2[m.length + 0]? = some (some { cells := lgc 0 (.slice none 0 0) (.slice none 0 0) dk (-1) false }) at hlg2
      have rl4 := fun T => Rd.old T (show Rd M2 (m.length + 0) (0 + 4) (.int .i64 (-1)) from ⟨_, hlg2, rfl⟩)
      have hS' : stF D (n + 1) = some (c, n, decide (0 < r)) := by rw [hS, hp1]; rfl
      (repeat (first|(with_reducible refine AWo.cons ?_)|((with_reducible refine Step.id ?_);first|((with_reducible apply Step.gdT);exact rfl;exact rfl;((rfl)))|((with_reducible apply Step.gdF);exact rfl;exact rfl;((rfl)))|((with_reducible apply Step.move);exact rfl;exact rfl)|((with_reducible apply Step.assign);exact rfl;exact rfl)|((with_reducible apply Step.load);exact rfl;((decide +kernel));exact rfl;((exact rl4 _)))|((with_reducible apply Step.loadL (n := 3));exact rfl;((decide +kernel));((decide +kernel));exact rfl;((exact RdL.new rfl rfl));exact rfl;exact rfl)|((with_reducible apply Step.field0);exact rfl;((decide +kernel));exact rfl)|((with_reducible apply Step.field (k := 4));exact rfl;((decide +kernel));exact rfl)|((with_reducible apply Step.lss);exact rfl;exact rfl;exact rfl)|((with_reducible apply Step.nilp);exact rfl;exact rfl)|((with_reducible apply Step.extract);exact rfl;exact rfl;exact rfl)|((with_reducible apply Step.pickT);exact rfl;exact rfl;exact rfl;exact rfl;((rfl)))|((with_reducible apply Step.alloc 0);exact rfl;exact ze124;exact rfl;((first|(simp only [zq7, zq8, zq9, zq0, iv_set, bv_set, iv_rep, bv_rep] <;> rfl)|rfl)))|((with_reducible apply Step.storeA (k := 0) (n := 3));exact rfl;exact rfl;exact rfl;exact rfl;((decide +kernel));exact rfl;((first|assumption|exact hw1));exact rfl;((first|(simp only [zq7, zq8, zq9, zq0, iv_set, bv_set, iv_rep, bv_rep] <;> rfl)|rfl))))|(with_reducible first|apply AWo.nil|apply AW.seq|apply Then.n|apply AW.regL)|((with_reducible apply AW.drawL fit);((decide +kernel)))|((with_reducible apply AW.condT);exact rfl;((rfl)))))
      ((with_reducible apply Step.storeL (n := 3) (v := [.int .i64 (c.gen : Nat), sv', rv']));exact rfl;exact rfl;exact (get_old _ hlg2);exact rfl;exact sz124;exact rfl;exact (SlV.all3 hs1 hs2);((show 0 + 3 ≤ 6;omega)))
      obtain ⟨Z, hZ⟩ : ∃ Z : AM, Z = M2 ++ [some { cells := [.int .i64 (c.gen : Nat), sv', rv'] }] := ⟨_, rfl⟩
      have hZl : m.length + 0 < Z.length := by rw [hZ, List.length_append]; omega
      have hZ1 : (Z.set (m.length + 0) (some { cells := lgc (c.gen : Nat) sv' rv' dk (-1) false }))[m.length + 0]? = some (some { cells := lgc (c.gen : Nat) sv' rv' dk (-1) false }) := List.getElem?_set_self hZl
      have eZ : ((M2 ++ ([some { cells := (Value.agg #[.int .i64 (c.gen : Nat), sv', rv']).cells.toList }] : AM)).set (m.length + 0) (some { cells := splice (lgc 0 (.slice none 0 0) (.slice none 0 0) dk (-1) false) 0 [.int .i64 (c.gen : Nat), sv', rv'] }) : AM) = Z.set (m.length + 0) (some { cells := lgc (c.gen : Nat) sv' rv' dk (-1) false }) := by rw [hZ]; rfl
      rw [eZ, ← List.append_nil (Z.set _ _)]
      (repeat (first|(with_reducible refine AWo.cons ?_)|((with_reducible refine Step.id ?_);first|((with_reducible apply Step.field (k := 4));exact rfl;((decide +kernel));exact rfl)|((with_reducible apply Step.nilp);exact rfl;exact rfl))))
      ((with_reducible apply Step.storeAt);exact rfl;exact rfl;exact (get_old [] hZ1);exact sz3d;exact rfl;((show 0 + 4 < 6;omega));exact rfl;exact rfl)
      (repeat (first|(with_reducible refine AWo.cons ?_)|((with_reducible refine Step.id ?_);first|((with_reducible apply Step.move);exact rfl;exact rfl)|((with_reducible apply Step.assign);exact rfl;exact rfl)|((with_reducible apply Step.add);exact rfl;exact rfl;((omega));exact rfl))|(with_reducible first|apply AWo.nil|apply Then.n|apply AW.regL|apply InBlk.n)))
      rw [List.append_nil, List.set_set]
      have hctZ : ContAt Z (m.length + 1) sv' rv' c := by rw [hZ]; exact hccl.old _
      obtain ⟨N9, hN9⟩ := set_high (m0 := m) (N := N ++ (N1 ++ N2) ++ [some { cells := [.int .i64 (c.gen : Nat), sv', rv'] }]) (a := m.length + 0) (by omega) (some { cells := lgc (c.gen : Nat) sv' rv' dk (n : Nat) false })
      exact ⟨_, [(0, .pointer (some ⟨dk, 0, none⟩)), (4, .pointer (some ⟨m.length + 0, 0, none⟩)), (5, .bool (decide (0 < r))), (25, .int .i64 (n + 1 : Nat))], by omega, (by repeat (first | exact trivial | (refine And.intro rfl ?_))), n + 1, sv', rv', rfl, by omega, fun _ => by first | exact ho | rfl, ⟨N9, by rw [← hN9, hZ, hM2, List.append_assoc]; rfl⟩, by rw [hS']; exact List.getElem?_set_self hZl, fun c' k t e => by
       rw [hS'] at e
       injection e with e
       simp only [Prod.mk.injEq] at e
       obtain ⟨rfl, _⟩ := e
       exact hctZ.set, by rw [hS']; rfl⟩
     | some x =>
      obtain ⟨c0, n0, t0⟩ := x
      rw [hx] at hlg2 hS
      change M2[m.length + 0]? = some (some { cells := lgc (c0.gen : Nat) sv rv dk (n0 : Nat) false }) at hlg2
      have rl4 := fun T => Rd.old T (show Rd M2 (m.length + 0) (0 + 4) (.int .i64 (n0 : Nat)) from ⟨_, hlg2, rfl⟩)
      have rl0 := fun T => Rd.old T (show Rd M2 (m.length + 0) 0 (.int .i64 (c0.gen : Nat)) from ⟨_, hlg2, rfl⟩)
      by_cases hgt : c0.gen < c.gen
      ·have hS' : stF D (n + 1) = some (c, n, decide (0 < r)) := by rw [hS, hp1]; exact if_pos hgt
       (repeat (first|(with_reducible refine AWo.cons ?_)|((with_reducible refine Step.id ?_);first|((with_reducible apply Step.gdT);exact rfl;exact rfl;((rfl)))|((with_reducible apply Step.move);exact rfl;exact rfl)|((with_reducible apply Step.assign);exact rfl;exact rfl)|((with_reducible apply Step.load);exact rfl;((decide +kernel));exact rfl;((first|exact rl4 _|exact rl0 _|exact Rd.new rfl rfl)))|((with_reducible apply Step.loadL (n := 3));exact rfl;((decide +kernel));((decide +kernel));exact rfl;((exact RdL.new rfl rfl));exact rfl;exact rfl)|((with_reducible apply Step.field0);exact rfl;((decide +kernel));exact rfl)|((with_reducible apply Step.field (k := 4));exact rfl;((decide +kernel));exact rfl)|((with_reducible apply Step.lss);exact rfl;exact rfl;exact rfl)|((with_reducible apply Step.gtr);exact rfl;exact rfl;exact rfl)|((with_reducible apply Step.nilp);exact rfl;exact rfl)|((with_reducible apply Step.extract);exact rfl;exact rfl;exact rfl)|((with_reducible apply Step.pickT);exact rfl;exact rfl;exact rfl;exact rfl;((rfl)))|((with_reducible apply Step.pickF);exact rfl;exact rfl;exact rfl;exact rfl;((rfl)))|((with_reducible apply Step.alloc 0);exact rfl;exact ze124;exact rfl;((first|(simp only [zq7, zq8, zq9, zq0, iv_set, bv_set, iv_rep, bv_rep] <;> rfl)|rfl)))|((with_reducible apply Step.storeA (k := 0) (n := 3));exact rfl;exact rfl;exact rfl;exact rfl;((decide +kernel));exact rfl;((first|assumption|exact hw1));exact rfl;((first|(simp only [zq7, zq8, zq9, zq0, iv_set, bv_set, iv_rep, bv_rep] <;> rfl)|rfl))))|(with_reducible first|apply AWo.nil|apply AW.seq|apply Then.n|apply AW.regL)|((with_reducible apply AW.drawL fit);((decide +kernel)))|((with_reducible apply AW.condT);exact rfl;(((simp only [zq1, zq2, zq3, zq4, zq5, zq6];first|assumption|omega))))))
       ((with_reducible apply Step.storeL (n := 3) (v := [.int .i64 (c.gen : Nat), sv', rv']));exact rfl;exact rfl;exact (get_old _ hlg2);exact rfl;exact sz124;exact rfl;exact (SlV.all3 hs1 hs2);((show 0 + 3 ≤ 6;omega)))
       obtain ⟨Z, hZ⟩ : ∃ Z : AM, Z = M2 ++ [some { cells := [.int .i64 (c.gen : Nat), sv', rv'] }] := ⟨_, rfl⟩
       have hZl : m.length + 0 < Z.length := by rw [hZ, List.length_append]; omega
       have hZ1 : (Z.set (m.length + 0) (some { cells := lgc (c.gen : Nat) sv' rv' dk (n0 : Nat) false }))[m.length + 0]? = some (some { cells := lgc (c.gen : Nat) sv' rv' dk (n0 : Nat) false }) := List.getElem?_set_self hZl
       have eZ : ((M2 ++ ([some { cells := (Value.agg #[.int .i64 (c.gen : Nat), sv', rv']).cells.toList }] : AM)).set (m.length + 0) (some { cells := splice (lgc (c0.gen : Nat) sv rv dk (n0 : Nat) false) 0 [.int .i64 (c.gen : Nat), sv', rv'] }) : AM) = Z.set (m.length + 0) (some { cells := lgc (c.gen : Nat) sv' rv' dk (n0 : Nat) false }) := by rw [hZ]; rfl
       rw [eZ, ← List.append_nil (Z.set _ _)]
       (repeat (first|(with_reducible refine AWo.cons ?_)|((with_reducible refine Step.id ?_);first|((with_reducible apply Step.field (k := 4));exact rfl;((decide +kernel));exact rfl)|((with_reducible apply Step.nilp);exact rfl;exact rfl))))
       ((with_reducible apply Step.storeAt);exact rfl;exact rfl;exact (get_old [] hZ1);exact sz3d;exact rfl;((show 0 + 4 < 6;omega));exact rfl;exact rfl)
       (repeat (first|(with_reducible refine AWo.cons ?_)|((with_reducible refine Step.id ?_);first|((with_reducible apply Step.move);exact rfl;exact rfl)|((with_reducible apply Step.assign);exact rfl;exact rfl)|((with_reducible apply Step.add);exact rfl;exact rfl;((omega));exact rfl))|(with_reducible first|apply AWo.nil|apply Then.n|apply AW.regL|apply InBlk.n)))
       rw [List.append_nil, List.set_set]
       have hctZ : ContAt Z (m.length + 1) sv' rv' c := by rw [hZ]; exact hccl.old _
       obtain ⟨N9, hN9⟩ := set_high (m0 := m) (N := N ++ (N1 ++ N2) ++ [some { cells := [.int .i64 (c.gen : Nat), sv', rv'] }]) (a := m.length + 0) (by omega) (some { cells := lgc (c.gen : Nat) sv' rv' dk (n : Nat) false })
       exact ⟨_, [(0, .pointer (some ⟨dk, 0, none⟩)), (4, .pointer (some ⟨m.length + 0, 0, none⟩)), (5, .bool (decide (0 < r))), (25, .int .i64 (n + 1 : Nat))], by omega, (by repeat (first | exact trivial | (refine And.intro rfl ?_))), n + 1, sv', rv', rfl, by omega, fun _ => by first | exact ho | rfl, ⟨N9, by rw [← hN9, hZ, hM2, List.append_assoc]; rfl⟩, by rw [hS']; exact List.getElem?_set_self hZl, fun c' k t e => by
        rw [hS'] at e
        injection e with e
        simp only [Prod.mk.injEq] at e
        obtain ⟨rfl, _⟩ := e
        exact hctZ.set, by rw [hS']; rfl⟩
      ·have hS' : stF D (n + 1) = some (c0, n0, t0) := by rw [hS, hp1]; exact if_neg hgt
       (repeat (first|(with_reducible refine AWo.cons ?_)|((with_reducible refine Step.id ?_);first|((with_reducible apply Step.gdT);exact rfl;exact rfl;((rfl)))|((with_reducible apply Step.move);exact rfl;exact rfl)|((with_reducible apply Step.assign);exact rfl;exact rfl)|((with_reducible apply Step.load);exact rfl;((decide +kernel));exact rfl;((first|exact rl4 _|exact rl0 _|exact Rd.new rfl rfl)))|((with_reducible apply Step.field0);exact rfl;((decide +kernel));exact rfl)|((with_reducible apply Step.field (k := 4));exact rfl;((decide +kernel));exact rfl)|((with_reducible apply Step.add);exact rfl;exact rfl;((omega));exact rfl)|((with_reducible apply Step.lss);exact rfl;exact rfl;exact rfl)|((with_reducible apply Step.gtr);exact rfl;exact rfl;exact rfl)|((with_reducible apply Step.nilp);exact rfl;exact rfl)|((with_reducible apply Step.extract);exact rfl;exact rfl;exact rfl)|((with_reducible apply Step.pickT);exact rfl;exact rfl;exact rfl;exact rfl;((rfl)))|((with_reducible apply Step.pickF);exact rfl;exact rfl;exact rfl;exact rfl;((rfl)))|((with_reducible apply Step.alloc 0);exact rfl;exact ze124;exact rfl;((first|(simp only [zq7, zq8, zq9, zq0, iv_set, bv_set, iv_rep, bv_rep] <;> rfl)|rfl)))|((with_reducible apply Step.storeA (k := 0) (n := 3));exact rfl;exact rfl;exact rfl;exact rfl;((decide +kernel));exact rfl;((first|assumption|exact hw1));exact rfl;((first|(simp only [zq7, zq8, zq9, zq0, iv_set, bv_set, iv_rep, bv_rep] <;> rfl)|rfl))))|(with_reducible first|apply AWo.nil|apply AW.seq|apply Then.n|apply AW.regL)|((with_reducible apply AW.drawL fit);((decide +kernel)))|(with_reducible first|apply InBlk.n|apply AW.skip)|((with_reducible apply AW.condF);exact rfl;(((simp only [zq1, zq2, zq3, zq4, zq5, zq6];first|assumption|omega))))))
       exact ⟨_, [(0, .pointer (some ⟨dk, 0, none⟩)), (4, .pointer (some ⟨m.length + 0, 0, none⟩)), (5, .bool t0), (25, .int .i64 (n + 1 : Nat))], by omega, (by repeat (first | exact trivial | (refine And.intro rfl ?_))), n + 1, sv, rv, rfl, by omega, fun _ => by first | exact ho | rfl, ⟨_, by rw [hM2, List.append_assoc]⟩, by rw [hS']; exact get_old _ hlg2, fun c k t e => (hct2 c k t (by rw [hx, ← hS']; exact e)).old _, by rw [hS']; rfl⟩
  ·obtain rfl : n = 2 := by omega
   (repeat (first|(with_reducible refine AWo.cons ?_)|((with_reducible refine Step.id ?_);((with_reducible apply Step.lss);exact rfl;exact rfl;exact rfl))|(with_reducible first|apply AWo.nil|apply AW.seq|apply Then.n|apply AW.regL|apply AW.exit|apply Then.e)|((with_reducible apply AW.condF);exact rfl;((rfl)))))
   refine MidR.e ?_
   exact ⟨sv, rv, hoff (by omega), ⟨N, by rw [List.append_nil]⟩, by rw [List.append_nil]; exact hlg, fun c k t e => by rw [List.append_nil]; exact hct c k t e, (by repeat (first | exact trivial | (refine And.intro rfl ?_)))⟩
 ·rintro t' M ⟨sv, rv, ho, ⟨N, rfl⟩, hlg, hct, hsl⟩
  refine InBlk.hit ?_
  refine Then.n ?_
  refine AW.weak (fr_all hsl) ?_
  clear hsl
  refine AW.rebase ?_
  have hop : openF D = (match pickF D with
   | none => wrO D ⟨1, [], []⟩ 0
   | some (c, n, true) => if c.gen = 4611686018427387904 then (5, none, D) else wrO D ⟨c.gen + 1, c.snap, c.recs⟩ (1 - n)
   | some (c, n, false) => (0, some (c, n), D)) := by
   unfold openF
   rw [if_neg (by rw [ho]; simp)]
  have hll := (List.getElem?_eq_some_iff.1 hlg).1
  cases hp : pickF D with
  | none =>
   rw [hp] at hlg hop
   simp only at hop
   change (m ++ N)[m.length + 0]? = some (some { cells := lgc 0 (.slice none 0 0) (.slice none 0 0) dk (-1) false }) at hlg
   have rl4 := fun T => Rd.old T (show Rd (m ++ N) (m.length + 0) (0 + 4) (.int .i64 (-1)) from ⟨_, hlg, rfl⟩)
   (repeat (first|(with_reducible refine AWo.cons ?_)|((with_reducible refine Step.id ?_);first|((with_reducible apply Step.move);exact rfl;exact rfl)|((with_reducible apply Step.assign);exact rfl;exact rfl)|((with_reducible apply Step.load);exact rfl;((decide +kernel));exact rfl;((exact rl4 _)))|((with_reducible apply Step.field0);exact rfl;((decide +kernel));exact rfl)|((with_reducible apply Step.field (k := 4));exact rfl;((decide +kernel));exact rfl)|((with_reducible apply Step.lss);exact rfl;exact rfl;exact rfl)|((with_reducible apply Step.nilp);exact rfl;exact rfl)|((with_reducible apply Step.build);exact rfl;exact bl124o;exact rfl))|(with_reducible first|apply AWo.nil|apply AW.seq|apply Then.n|apply AW.regL|apply AW.block)|((with_reducible apply AW.condT);exact rfl;((rfl)))))
   ((with_reducible apply Step.storeL (n := 3) (v := [.int .i64 1, .slice none 0 0, .slice none 0 0]));exact rfl;exact rfl;exact (get_old [] hlg);exact rfl;exact sz124;exact rfl;exact rfl;((show 0 + 3 ≤ 6;omega)))
   obtain ⟨Z, hZ⟩ : ∃ Z : AM, Z = (m ++ N).set (m.length + 0) (some { cells := lgc 1 (.slice none 0 0) (.slice none 0 0) dk (-1) false }) := ⟨_, rfl⟩
   have hZ1 : Z[m.length + 0]? = some (some { cells := lgc 1 (.slice none 0 0) (.slice none 0 0) dk (-1) false }) := by rw [hZ]; exact List.getElem?_set_self hll
   have eZ : (m ++ N ++ []).set (m.length + 0) (some { cells := splice (lgc 0 (.slice none 0 0) (.slice none 0 0) dk (-1) false) 0 [.int .i64 1, .slice none 0 0, .slice none 0 0] }) = Z := by rw [hZ, List.append_nil]; rfl
   rw [eZ, ← List.append_nil Z]
   (repeat (first|(with_reducible refine AWo.cons ?_)|((with_reducible refine Step.id ?_);first|((with_reducible apply Step.field (k := 4));exact rfl;((decide +kernel));exact rfl)|((with_reducible apply Step.nilp);exact rfl;exact rfl))))
   ((with_reducible apply Step.storeAt);exact rfl;exact rfl;exact (get_old [] hZ1);exact sz3d;exact rfl;((show 0 + 4 < 6;omega));exact rfl;exact rfl)
   obtain ⟨N9, hN9⟩ := set_high (m0 := m) (N := N) (a := m.length + 0) (by omega) (some { cells := lgc 1 (.slice none 0 0) (.slice none 0 0) dk 0 false })
   obtain ⟨W, hW⟩ : ∃ W : AM, W = (m ++ N).set (m.length + 0) (some { cells := lgc 1 (.slice none 0 0) (.slice none 0 0) dk 0 false }) := ⟨_, rfl⟩
   have hWm : W = m ++ N9 := by rw [hW]; exact hN9
   have hW1 : W[m.length + 0]? = some (some { cells := lgc 1 (.slice none 0 0) (.slice none 0 0) dk 0 false }) := by rw [hW]; exact List.getElem?_set_self hll
   have eW : (Z ++ []).set (m.length + 0) (some { cells := (lgc 1 (.slice none 0 0) (.slice none 0 0) dk (-1) false).set (0 + 4) (.int .i64 0) }) = W := by rw [hZ, hW, List.append_nil, List.set_set]; rfl
   have hctW : ContAt W (m.length + 1) (.slice none 0 0) (.slice none 0 0) ⟨1, [], []⟩ := ContAt.none
   have hencl : (encB ⟨1, [], []⟩).length ≤ 100000000 := by rw [encB_len]; simp
   have hcntl : (⟨1, [], []⟩ : Cont).recs.length ≤ 100000000 := Nat.zero_le _
   rw [eW, ← List.append_nil W]
   rw [List.append_nil]
   have hW1 : W[m.length]? = some (some { cells := lgc ((1 : Nat) : Int) (.slice none 0 0) (.slice none 0 0) dk ((0 : Nat) : Int) false }) := hW1
   have hDW : DiskAt W b0 dk D u0 u1 := by rw [hWm]; exact h.old _
   have hnbW : ∀ j, dkD dk u0 u1 j → ¬ (m.length + 1 ≤ j ∧ j < W.length) := fun j hj e => by
    obtain ⟨_, b, hb, _⟩ := h.at_ hj
    have := (List.getElem?_eq_some_iff.1 hb).1
    omega
   have hWl := (List.getElem?_eq_some_iff.1 hW1).1
   have hwr := write_ok (bc := m.length + 1) (c := ⟨1, [], []⟩) ((0 : Nat) : Int) hDW (by omega) (S := fun j => m.length + 1 ≤ j ∧ j < W.length) (ContAt.keep hctW fun j b hb hj _ => vw_some.2 ⟨⟨hj, (List.getElem?_eq_some_iff.1 hb).1⟩, hb⟩) hnbW (by show 1 ≤ _; omega) hencl hcntl
   have q0 := fun T => RdL.old T (show RdL W (m.length + 0) 0 [.int .i64 ((1 : Nat) : Int), (.slice none 0 0), (.slice none 0 0)] from ⟨_, hW1, fun j v hv => by
    have hj := (List.getElem?_eq_some_iff.1 hv).1
    rw [Nat.zero_add]
    rcases j with _ | _ | _ | j
    ·exact hv
    ·exact hv
    ·exact hv
    ·exact absurd hj (by show ¬ j + 1 + 1 + 1 < 3; omega)⟩)
   have q4 := fun T => Rd.old T (show Rd W (m.length + 0) (0 + 4) (.int .i64 ((0 : Nat) : Int)) from ⟨_, hW1, rfl⟩)
   rw [← List.append_nil W]
   (repeat (first|(with_reducible refine AWo.cons ?_)|((with_reducible refine Step.id ?_);first|((with_reducible apply Step.move);exact rfl;exact rfl)|((with_reducible apply Step.load);exact rfl;((decide +kernel));exact rfl;((exact q4 _)))|((with_reducible apply Step.loadL (n := 3));exact rfl;((decide +kernel));((decide +kernel));exact rfl;((exact q0 _));exact rfl;exact rfl)|((with_reducible apply Step.field0);exact rfl;((decide +kernel));exact rfl)|((with_reducible apply Step.field (k := 4));exact rfl;((decide +kernel));exact rfl)|((with_reducible apply Step.nilp);exact rfl;exact rfl))|(with_reducible first|apply AWo.nil|apply AW.seq|apply Then.n)|((with_reducible apply AW.drawL fit);((decide +kernel)))|(with_reducible apply InBlk.n)))
   ((with_reducible apply Step.callF fit);exact rfl;exact Try.func118;exact rfl;exact rfl;((rw [List.append_nil];exact hwr)))
   rintro r9 M9 ⟨rfl, hQ9⟩
   by_cases he : (wrF D ((0 : Nat) : Int) ⟨1, [], []⟩).1 = 0
   ·have hq := WrQ.open h hWm hW1 hctW (by omega) hQ9 he
    rw [he, ← List.append_nil M9]
    (repeat (first|(with_reducible refine AWo.cons ?_)|((with_reducible refine Step.id ?_);first|((with_reducible apply Step.move);exact rfl;exact rfl)|((with_reducible apply Step.assign);exact rfl;exact rfl)|((with_reducible apply Step.neq);exact rfl;exact rfl;exact rfl))|(with_reducible first|apply AWo.nil|apply AW.seq|apply Then.n|apply AW.regL|apply AW.skip)|((with_reducible apply AW.condF);exact rfl;((rfl)))))
    (refine AW.ret ?_; (repeat (first | refine Then.r ?_ | refine InBlk.r ?_)))
    rw [List.append_nil]
    exact ⟨_, rfl, by rw [hop]; exact hq⟩
   ·have hq := OpQ.err (wrO_bad he) he (DkQ.after (Keep.app _ m _) (by rw [← hWm]; exact hQ9))
    rw [← hop] at hq
    generalize (wrF D ((0 : Nat) : Int) ⟨1, [], []⟩).1 = e at *
    rw [← List.append_nil M9]
    (repeat (first|(with_reducible refine AWo.cons ?_)|((with_reducible refine Step.id ?_);first|((with_reducible apply Step.move);exact rfl;exact rfl)|((with_reducible apply Step.assign);exact rfl;exact rfl)|((with_reducible apply Step.neq);exact rfl;exact rfl;exact rfl))|(with_reducible first|apply AWo.nil|apply AW.seq|apply Then.n|apply AW.regL)|((with_reducible apply AW.condT);exact rfl;(((simp only [zq1, zq2, zq3, zq4, zq5, zq6];first|assumption|omega))))))
    (refine AW.ret ?_; (repeat (first | refine Then.r ?_ | refine InBlk.r ?_)))
    rw [List.append_nil]
    exact ⟨_, rfl, hq⟩
  | some x =>
   obtain ⟨c, n, tn⟩ := x
   rw [hp] at hlg hop
   change (m ++ N)[m.length + 0]? = some (some { cells := lgc (c.gen : Nat) sv rv dk (n : Nat) false }) at hlg
   have rl4 := fun T => Rd.old T (show Rd (m ++ N) (m.length + 0) (0 + 4) (.int .i64 (n : Nat)) from ⟨_, hlg, rfl⟩)
   have rl0 := fun T => Rd.old T (show Rd (m ++ N) (m.length + 0) 0 (.int .i64 (c.gen : Nat)) from ⟨_, hlg, rfl⟩)
   have hct := hct c n tn hp
   obtain ⟨r, hpr, hn2, _⟩ := pick_ok hp
   obtain ⟨l1, l2, l3, l4, l5⟩ := parseF_len hpr
   have hal := (h.ok.arl n).1
   cases tn with
   | false =>
    simp only at hop
    (repeat (first|(with_reducible refine AWo.cons ?_)|((with_reducible refine Step.id ?_);first|((with_reducible apply Step.gdF);exact rfl;exact rfl;((rfl)))|((with_reducible apply Step.move);exact rfl;exact rfl)|((with_reducible apply Step.assign);exact rfl;exact rfl)|((with_reducible apply Step.load);exact rfl;((decide +kernel));exact rfl;((exact rl4 _)))|((with_reducible apply Step.field (k := 4));exact rfl;((decide +kernel));exact rfl)|((with_reducible apply Step.lss);exact rfl;exact rfl;exact rfl)|((with_reducible apply Step.nilp);exact rfl;exact rfl)|((with_reducible apply Step.pickF);exact rfl;exact rfl;exact rfl;exact rfl;((rfl))))|(with_reducible first|apply AWo.nil|apply AW.seq|apply Then.n|apply AW.regL|apply AW.block)|((with_reducible apply AW.condF);exact rfl;((rfl)))))
    (refine AW.ret ?_; (repeat (first | refine Then.r ?_ | refine InBlk.r ?_)))
    rw [List.append_nil]
    have hnb : ∀ j, dkD dk u0 u1 j → j < m.length := fun j hj => by
     obtain ⟨_, b, hb, _⟩ := h.at_ hj
     exact (List.getElem?_eq_some_iff.1 hb).1
    have hS : ∀ j b, (m ++ N)[j]? = some (some b) → m.length ≤ j → (vw (fun j => m.length ≤ j) (m ++ N))[j]? = some (some b) := fun j b hb hj => vw_some.2 ⟨hj, hb⟩
    refine ⟨_, rfl, ?_⟩
    rw [hop]
    exact .inr ⟨c, n, m.length, u0, u1, sv, rv, _, rfl, rfl, rfl, h.old N, Keep.app _ _ _, fun _ _ hn => hn, ⟨hS _ _ hlg (Nat.le_refl _), hct.keep fun j b hb hj _ => hS j b hb (by omega), by rw [vw_len, List.length_append]; show dk < _; omega, hn2⟩, fun j hj => ⟨hj, fun e => by have := hnb j e; omega⟩⟩
   | true =>
    simp only at hop
    by_cases hg : c.gen = 4611686018427387904
    ·rw [if_pos hg] at hop
     (repeat (first|(with_reducible refine AWo.cons ?_)|((with_reducible refine Step.id ?_);first|((with_reducible apply Step.gdT);exact rfl;exact rfl;((rfl)))|((with_reducible apply Step.move);exact rfl;exact rfl)|((with_reducible apply Step.assign);exact rfl;exact rfl)|((with_reducible apply Step.load);exact rfl;((decide +kernel));exact rfl;((first|exact rl4 _|exact rl0 _)))|((with_reducible apply Step.field0);exact rfl;((decide +kernel));exact rfl)|((with_reducible apply Step.field (k := 4));exact rfl;((decide +kernel));exact rfl)|((with_reducible apply Step.lss);exact rfl;exact rfl;exact rfl)|((with_reducible apply Step.eql);exact rfl;exact rfl;exact rfl)|((with_reducible apply Step.nilp);exact rfl;exact rfl)|((with_reducible apply Step.pickT);exact rfl;exact rfl;exact rfl;exact rfl;((rfl))))|(with_reducible first|apply AWo.nil|apply AW.seq|apply Then.n|apply AW.regL|apply AW.block)|((with_reducible apply AW.condT);exact rfl;(((simp only [zq1, zq2, zq3, zq4, zq5, zq6];first|assumption|omega))))|((with_reducible apply AW.condF);exact rfl;((rfl)))))
     (refine AW.ret ?_; (repeat (first | refine Then.r ?_ | refine InBlk.r ?_)))
     rw [List.append_nil]
     exact ⟨_, rfl, OpQ.err hop (by decide) (DkQ.refl h N)⟩
    ·rw [if_neg hg] at hop
     have hd : ((1 : Int) - (n : Int)) = ((1 - n : Nat) : Int) := by omega
     have hg1 : ((c.gen : Int) + 1) = ((c.gen + 1 : Nat) : Int) := by omega
     (repeat (first|(with_reducible refine AWo.cons ?_)|((with_reducible refine Step.id ?_);first|((with_reducible apply Step.gdT);exact rfl;exact rfl;((rfl)))|((with_reducible apply Step.move);exact rfl;exact rfl)|((with_reducible apply Step.assign);exact rfl;exact rfl)|((with_reducible apply Step.load);exact rfl;((decide +kernel));exact rfl;((first|exact rl4 _|exact rl0 _)))|((with_reducible apply Step.field0);exact rfl;((decide +kernel));exact rfl)|((with_reducible apply Step.field (k := 4));exact rfl;((decide +kernel));exact rfl)|((with_reducible apply Step.add);exact rfl;exact rfl;((omega));exact rfl)|((with_reducible apply Step.sub);exact rfl;exact rfl;((omega));exact rfl)|((with_reducible apply Step.lss);exact rfl;exact rfl;exact rfl)|((with_reducible apply Step.eql);exact rfl;exact rfl;exact rfl)|((with_reducible apply Step.nilp);exact rfl;exact rfl)|((with_reducible apply Step.pickT);exact rfl;exact rfl;exact rfl;exact rfl;((rfl))))|(with_reducible first|apply AWo.nil|apply AW.seq|apply Then.n|apply AW.regL|apply AW.block)|((with_reducible apply AW.drawL fit);((decide +kernel)))|((with_reducible apply AW.condT);exact rfl;((rfl)))|((with_reducible apply AW.condF);exact rfl;((first|rfl|(simp only [zq1, zq2, zq3, zq4, zq5, zq6];first|assumption|omega))))))
     rw [hd, hg1]
     ((with_reducible apply Step.storeAt);exact rfl;exact rfl;exact (get_old [] hlg);exact sz3d;exact rfl;((show 0 < 6;omega));exact rfl;exact rfl)
     obtain ⟨Z, hZ⟩ : ∃ Z : AM, Z = (m ++ N).set (m.length + 0) (some { cells := lgc ((c.gen + 1 : Nat) : Int) sv rv dk (n : Nat) false }) := ⟨_, rfl⟩
     have hZ1 : Z[m.length + 0]? = some (some { cells := lgc ((c.gen + 1 : Nat) : Int) sv rv dk (n : Nat) false }) := by rw [hZ]; exact List.getElem?_set_self hll
     have eZ : (m ++ N ++ []).set (m.length + 0) (some { cells := (lgc (c.gen : Nat) sv rv dk (n : Nat) false).set 0 (.int .i64 ((c.gen + 1 : Nat) : Int)) }) = Z := by rw [hZ, List.append_nil]; rfl
     rw [eZ, ← List.append_nil Z]
     (repeat (first|(with_reducible refine AWo.cons ?_)|((with_reducible refine Step.id ?_);first|((with_reducible apply Step.field (k := 4));exact rfl;((decide +kernel));exact rfl)|((with_reducible apply Step.nilp);exact rfl;exact rfl))))
     ((with_reducible apply Step.storeAt);exact rfl;exact rfl;exact (get_old [] hZ1);exact sz3d;exact rfl;((show 0 + 4 < 6;omega));exact rfl;exact rfl)
     obtain ⟨N9, hN9⟩ := set_high (m0 := m) (N := N) (a := m.length + 0) (by omega) (some { cells := lgc ((c.gen + 1 : Nat) : Int) sv rv dk (1 - n : Nat) false })
     obtain ⟨W, hW⟩ : ∃ W : AM, W = (m ++ N).set (m.length + 0) (some { cells := lgc ((c.gen + 1 : Nat) : Int) sv rv dk (1 - n : Nat) false }) := ⟨_, rfl⟩
     have hWm : W = m ++ N9 := by rw [hW]; exact hN9
     have hW1 : W[m.length + 0]? = some (some { cells := lgc ((c.gen + 1 : Nat) : Int) sv rv dk (1 - n : Nat) false }) := by rw [hW]; exact List.getElem?_set_self hll
     have eW : (Z ++ []).set (m.length + 0) (some { cells := (lgc ((c.gen + 1 : Nat) : Int) sv rv dk (n : Nat) false).set (0 + 4) (.int .i64 ((1 - n : Nat) : Int)) }) = W := by rw [hZ, hW, List.append_nil, List.set_set]; rfl
     have hctW : ContAt W (m.length + 1) sv rv ⟨c.gen + 1, c.snap, c.recs⟩ := by rw [hW]; exact (hct.gen (g := c.gen + 1)).set
     have hel := encB_len c
     have hel2 := encB_len ⟨c.gen + 1, c.snap, c.recs⟩
     have hcn := flat_cnt c.recs
     have hencl : (encB ⟨c.gen + 1, c.snap, c.recs⟩).length ≤ 100000000 := by rw [hel2]; show 20 + (c.snap.length + 8) + (c.recs.flatMap frB).length ≤ _; omega
     have hcntl : (⟨c.gen + 1, c.snap, c.recs⟩ : Cont).recs.length ≤ 100000000 := by show c.recs.length ≤ _; omega
     rw [eW, ← List.append_nil W]
     rw [List.append_nil]
     have hW1 : W[m.length]? = some (some { cells := lgc ((c.gen + 1 : Nat) : Int) sv rv dk ((1 - n : Nat) : Int) false }) := hW1
     have hDW : DiskAt W b0 dk D u0 u1 := by rw [hWm]; exact h.old _
     have hnbW : ∀ j, dkD dk u0 u1 j → ¬ (m.length + 1 ≤ j ∧ j < W.length) := fun j hj e => by
      obtain ⟨_, b, hb, _⟩ := h.at_ hj
      have := (List.getElem?_eq_some_iff.1 hb).1
      omega
     have hWl := (List.getElem?_eq_some_iff.1 hW1).1
     have hwr := write_ok (bc := m.length + 1) (c := ⟨c.gen + 1, c.snap, c.recs⟩) ((1 - n : Nat) : Int) hDW (by omega) (S := fun j => m.length + 1 ≤ j ∧ j < W.length) (ContAt.keep hctW fun j b hb hj _ => vw_some.2 ⟨⟨hj, (List.getElem?_eq_some_iff.1 hb).1⟩, hb⟩) hnbW (by show c.gen + 1 ≤ _; omega) hencl hcntl
     have q0 := fun T => RdL.old T (show RdL W (m.length + 0) 0 [.int .i64 ((c.gen + 1 : Nat) : Int), sv, rv] from ⟨_, hW1, fun j v hv => by
      have hj := (List.getElem?_eq_some_iff.1 hv).1
      rw [Nat.zero_add]
      rcases j with _ | _ | _ | j
      ·exact hv
      ·exact hv
      ·exact hv
      ·exact absurd hj (by show ¬ j + 1 + 1 + 1 < 3; omega)⟩)
     have q4 := fun T => Rd.old T (show Rd W (m.length + 0) (0 + 4) (.int .i64 ((1 - n : Nat) : Int)) from ⟨_, hW1, rfl⟩)
     rw [← List.append_nil W]
     (repeat (first|(with_reducible refine AWo.cons ?_)|((with_reducible refine Step.id ?_);first|((with_reducible apply Step.move);exact rfl;exact rfl)|((with_reducible apply Step.load);exact rfl;((decide +kernel));exact rfl;((exact q4 _)))|((with_reducible apply Step.loadL (n := 3));exact rfl;((decide +kernel));((decide +kernel));exact rfl;((exact q0 _));exact rfl;exact rfl)|((with_reducible apply Step.field0);exact rfl;((decide +kernel));exact rfl)|((with_reducible apply Step.field (k := 4));exact rfl;((decide +kernel));exact rfl)|((with_reducible apply Step.nilp);exact rfl;exact rfl))|(with_reducible first|apply AWo.nil|apply AW.seq|apply Then.n)|((with_reducible apply AW.drawL fit);((decide +kernel)))|(with_reducible apply InBlk.n)))
     ((with_reducible apply Step.callF fit);exact rfl;exact Try.func118;exact rfl;exact rfl;((rw [List.append_nil];exact hwr)))
     rintro r9 M9 ⟨rfl, hQ9⟩
     by_cases he : (wrF D ((1 - n : Nat) : Int) ⟨c.gen + 1, c.snap, c.recs⟩).1 = 0
     ·have hq := WrQ.open h hWm hW1 hctW (by omega) hQ9 he
      rw [he, ← List.append_nil M9]
      (repeat (first|(with_reducible refine AWo.cons ?_)|((with_reducible refine Step.id ?_);first|((with_reducible apply Step.move);exact rfl;exact rfl)|((with_reducible apply Step.assign);exact rfl;exact rfl)|((with_reducible apply Step.neq);exact rfl;exact rfl;exact rfl))|(with_reducible first|apply AWo.nil|apply AW.seq|apply Then.n|apply AW.regL|apply AW.skip)|((with_reducible apply AW.condF);exact rfl;((rfl)))))
      (refine AW.ret ?_; (repeat (first | refine Then.r ?_ | refine InBlk.r ?_)))
      rw [List.append_nil]
      exact ⟨_, rfl, by rw [hop]; exact hq⟩
     ·have hq := OpQ.err (wrO_bad he) he (DkQ.after (Keep.app _ m _) (by rw [← hWm]; exact hQ9))
      rw [← hop] at hq
      generalize (wrF D ((1 - n : Nat) : Int) ⟨c.gen + 1, c.snap, c.recs⟩).1 = e at *
      rw [← List.append_nil M9]
      (repeat (first|(with_reducible refine AWo.cons ?_)|((with_reducible refine Step.id ?_);first|((with_reducible apply Step.move);exact rfl;exact rfl)|((with_reducible apply Step.assign);exact rfl;exact rfl)|((with_reducible apply Step.neq);exact rfl;exact rfl;exact rfl))|(with_reducible first|apply AWo.nil|apply AW.seq|apply Then.n|apply AW.regL)|((with_reducible apply AW.condT);exact rfl;(((simp only [zq1, zq2, zq3, zq4, zq5, zq6];first|assumption|omega))))))
      (refine AW.ret ?_; (repeat (first | refine Then.r ?_ | refine InBlk.r ?_)))
      rw [List.append_nil]
      exact ⟨_, rfl, hq⟩
end Go.Proofs.Ytabdnepfcohncaa.Abs
