/- Proved here: what the proof of CutProves rests on, part 4 of 5. Conditions: those that each theorem names. -/
import Derived.Test.YtibhgdglbillaaaDoorCutProvesK3
namespace Go.Proofs.YtibhgdglbillaaaDoor.Abs
set_option linter.unusedSimpArgs false
set_option linter.unusedVariables false
open Go.RowKit
open Go.Proofs.YtibhgdglbillaaaDoor.Sim
open Go.Proofs
theorem ze47 : zeroB Tryd.prog 47 = some #[.slice none 0 0] := by kernel_rfl
theorem bl23w {c d : Int} : abuild Tryd.prog 23 [(2, .int .i64 c), (3, .int .i64 d)] = some (.agg #[.int .i64 0, .int .i64 0, .int .i64 c, .int .i64 d]) := by kernel_rfl
set_option maxRecDepth 100000 in
theorem whole_ok {m : AM} {p : Nat} {B : Brd} {K : List Kd} (hB : BoardAt m p B K) : ACall Tryd.prog 67 #[.pointer (some ⟨p, 0, none⟩)] m (Ret (wholeR B).rc.v m) := by
  refine ACall.drop (Ren.aggI [_, _, _, _]) ?_
  have tw := hB.w
  have th := hB.h
  change ACall Tryd.prog 67 _ m fun v m' => v = .agg #[.int .i64 0, .int .i64 0, .int .i64 (bw B : Nat), .int .i64 (bh B : Nat)] ∧ _
  refine ACall.start Tryd.func67 rfl rfl ?_
  (repeat (first | (with_reducible refine AWo.cons ?_) | ((with_reducible refine Step.id ?_); first | ((with_reducible apply Step.move); exact rfl; exact rfl) | ((with_reducible apply Step.load); exact rfl; (focus (decide +kernel)); exact rfl; (focus (exact Rd.old _ (by assumption)))) | ((with_reducible apply Step.field (k := 2)); exact rfl; (focus (decide +kernel)); exact rfl) | ((with_reducible apply Step.field (k := 3)); exact rfl; (focus (decide +kernel)); exact rfl) | ((with_reducible apply Step.nilp); exact rfl; exact rfl) | ((with_reducible apply Step.alloc 0); exact rfl; exact ze23; exact rfl; (focus (first | (simp only [List.nil_append, List.cons_append, List.set_cons_zero, List.set_cons_succ, iv_set, bv_set, iv_rep, bv_rep]; done) | (simp only [List.nil_append, List.cons_append, List.set_cons_zero, List.set_cons_succ, iv_set, bv_set, iv_rep, bv_rep]; rfl) | rfl))) | ((with_reducible apply Step.storeA (k := 0) (n := 4)); exact rfl; exact rfl; exact rfl; exact rfl; (focus (decide +kernel)); exact rfl; (focus (kernel_rfl)); exact rfl; (focus (first | (simp only [List.nil_append, List.cons_append, List.set_cons_zero, List.set_cons_succ, iv_set, bv_set, iv_rep, bv_rep]; done) | (simp only [List.nil_append, List.cons_append, List.set_cons_zero, List.set_cons_succ, iv_set, bv_set, iv_rep, bv_rep]; rfl) | rfl))) | ((with_reducible apply Step.build); exact rfl; exact bl23w; exact rfl)) | (with_reducible refine AWo.nil ?_) | ((with_reducible apply AW.seq)) | ((with_reducible apply Then.n)) | ((with_reducible apply AW.regL)) | ((with_reducible apply AW.drawL fit); (focus (decide +kernel)))))
  (refine AW.ret ?_; (repeat (first | refine Then.r ?_ | refine InBlk.r ?_)))
  exact ⟨_, ares_cell rfl rfl (by decide +kernel) (n := 4) (by decide +kernel) (RdL.new rfl rfl) rfl rfl, rfl, _, rfl⟩
theorem total_rects {B : Brd} {K : List Kd} (hg : goodB B K = true) : rectsM (bw B : Nat) (bh B : Nat) = (((total (bw B) (bh B) : Nat) : Int), 0) := by
  have hgb : boardB B = true := by simp only [goodB, Bool.and_eq_true] at hg; exact hg.1
  have hin := good_in hgb
  unfold rectsM
  rw [if_pos (by simp [sidesB]; omega)]
  unfold total t2
  simp only [Int.natCast_mul, Int.natCast_ediv, Int.natCast_add]
  rfl
set_option maxHeartbeats 8000000 in
set_option maxRecDepth 100000 in
theorem best_ok {m : AM} {p : Nat} {B : Brd} {K : List Kd} (hB : BoardAt m p B K) (hg : goodB B K = true) :
    ACall Tryd.prog 66 #[.pointer (some ⟨p, 0, none⟩)] m (More (fun m' v => ∃ q, m.length ≤ q ∧ v = .slice (some ⟨q, 0, none⟩) (total (bw B) (bh B)) (total (bw B) (bh B)) ∧ m'[q]? = some (some { cells := iv (boardT B K) })) m) := by
  have hgb : boardB B = true := by simp only [goodB, Bool.and_eq_true] at hg; exact hg.1
  have hin := good_in hgb
  have htl := total_le hin.2.2.2 hin.2.1
  have tw := hB.w
  have th := hB.h
  have hp := hB.lt
  have hR := fun m => Rects_ok (m := m) (bw B : Nat) (bh B : Nat)
  rw [total_rects hg] at hR
  refine ACall.start Tryd.func66 rfl rfl ?_
  (repeat (first | (with_reducible refine AWo.cons ?_) | ((with_reducible refine Step.id ?_); first | ((with_reducible apply Step.move); exact rfl; exact rfl) | ((with_reducible apply Step.assign); exact rfl; exact rfl) | ((with_reducible apply Step.load); exact rfl; (focus (decide +kernel)); exact rfl; (focus (first | exact Rd.new rfl rfl | exact Rd.old _ (by assumption)))) | ((with_reducible apply Step.field (k := 2)); exact rfl; (focus (decide +kernel)); exact rfl) | ((with_reducible apply Step.field (k := 3)); exact rfl; (focus (decide +kernel)); exact rfl) | ((with_reducible apply Step.nilp); exact rfl; exact rfl) | ((with_reducible apply Step.extract); exact rfl; exact rfl; exact rfl) | ((with_reducible apply Step.fn); exact rfl; exact rfl; exact rfl) | ((with_reducible apply Step.callR fit); exact rfl; exact Tryd.func17; exact rfl; exact rfl; exact (hR _)) | ((with_reducible apply Step.box 0); exact rfl; exact rfl; (focus (kernel_rfl)); exact rfl; (focus (first | (simp only [List.nil_append, List.cons_append, List.set_cons_zero, List.set_cons_succ, iv_set, bv_set, iv_rep, bv_rep]; done) | (simp only [List.nil_append, List.cons_append, List.set_cons_zero, List.set_cons_succ, iv_set, bv_set, iv_rep, bv_rep]; rfl) | rfl))) | ((with_reducible apply Step.make1 1); exact rfl; exact rfl; exact rfl; exact el47; (focus (omega)); exact rfl; (focus (first | (simp only [List.nil_append, List.cons_append, List.set_cons_zero, List.set_cons_succ, iv_set, bv_set, iv_rep, bv_rep]; done) | (simp only [List.nil_append, List.cons_append, List.set_cons_zero, List.set_cons_succ, iv_set, bv_set, iv_rep, bv_rep]; rfl) | rfl))) | ((with_reducible apply Step.alloc 2); exact rfl; exact ze47; exact rfl; (focus (first | (simp only [List.nil_append, List.cons_append, List.set_cons_zero, List.set_cons_succ, iv_set, bv_set, iv_rep, bv_rep]; done) | (simp only [List.nil_append, List.cons_append, List.set_cons_zero, List.set_cons_succ, iv_set, bv_set, iv_rep, bv_rep]; rfl) | rfl))) | ((with_reducible apply Step.store (k := 2)); exact rfl; exact rfl; exact rfl; exact rfl; (focus (decide +kernel)); exact rfl; exact rfl; (focus (first | omega | (simp [iv, bv]; done) | (simp [iv, bv]; omega))); (focus (first | (simp only [List.nil_append, List.cons_append, List.set_cons_zero, List.set_cons_succ, iv_set, bv_set, iv_rep, bv_rep]; done) | (simp only [List.nil_append, List.cons_append, List.set_cons_zero, List.set_cons_succ, iv_set, bv_set, iv_rep, bv_rep]; rfl) | rfl)))) | (with_reducible refine AWo.nil ?_) | ((with_reducible apply AW.seq)) | ((with_reducible apply Then.n)) | ((with_reducible apply AW.regL)) | ((with_reducible apply AW.drawL fit); (focus (decide +kernel)))))
  have hMM : ∀ X Y Z : Option Blk, ∀ v, MI (m ++ [X, Y, Z]) (m.length + 1) v = m ++ [X, some { cells := iv v }, Z] := fun X Y Z v => by
    unfold MI
    rw [List.set_append_right _ _ (by omega), show m.length + 1 - m.length = 1 by omega]
    rfl
  have h0 := hMM (some { cells := [.pointer (some ⟨p, 0, none⟩)] }) (some { cells := iv (List.replicate (total (bw B) (bh B)) 0) }) (some { cells := [.slice (some ⟨m.length + 1, 0, none⟩) (total (bw B) (bh B)) (total (bw B) (bh B))] })
  have hE : ∀ M0 : AM, (∃ N, M0 = m ++ N) → M0.length = m.length + 3 → Rd M0 (m.length + 0) 0 (.pointer (some ⟨p, 0, none⟩)) → Rd M0 (m.length + 2) 0 (.slice (some ⟨m.length + 1, 0, none⟩) (total (bw B) (bh B)) (total (bw B) (bh B))) →
      ACall Tryd.prog 69 #[.pointer (some ⟨p, 0, none⟩), .func (.func 101) #[] #[.pointer (some ⟨m.length + 0, 0, none⟩), .pointer (some ⟨m.length + 2, 0, none⟩)]] (MI M0 (m.length + 1) (List.replicate (total (bw B) (bh B)) 0)) (Ret (.tuple #[]) (MI M0 (m.length + 1) (boardT B K))) := fun M0 hN hl r1 r2 =>
    each_ok (m0 := M0) (fun v => MI M0 (m.length + 1) v) (bstep (leafM B K) (bw B) (bh B)) (TabI (V (leafM B K)) (bw B) (bh B)) (caps := #[.pointer (some ⟨m.length + 0, 0, none⟩), .pointer (some ⟨m.length + 2, 0, none⟩)]) Tryd.func101 rfl
    (fun v => by
      obtain ⟨N, rfl⟩ := hN
      obtain ⟨N', hN'⟩ := set_high (m0 := m) (N := N) (a := m.length + 1) (by omega) (some { cells := iv v })
      unfold MI
      rw [hN']
      exact hB.old _) hg (bstep_each hin.2.2.2 hin.2.1)
    (fun i j y x v T b1 b2 b3 b4 hI => bestc_ok (m := M0) (m1 := m) (q := m.length + 1) (a1 := m.length + 0) (a2 := m.length + 2) hN hB hg (by omega) (by omega) r1 r2 (by omega) (by omega) b1 b2 b3 b4 hI)
    (fun v => MI.len) (fun v v' j b h => MI.flat (by omega) v v' _ j b h) (Low.func (fun v hv => by
      simp only [List.mem_cons, List.not_mem_nil, or_false] at hv
      rcases hv with rfl | rfl
      · exact Low.ptr (by omega)
      · exact Low.ptr (by omega))) (List.replicate (total (bw B) (bh B)) 0) TabI.zero
  have hE := hE _ ⟨_, rfl⟩ (by rw [List.length_append]; rfl) (Rd.new (b := { cells := [.pointer (some ⟨p, 0, none⟩)] }) rfl rfl) (Rd.new (L := [some { cells := [.pointer (some ⟨p, 0, none⟩)] }, some { cells := iv (List.replicate (total (bw B) (bh B)) 0) }, some { cells := [.slice (some ⟨m.length + 1, 0, none⟩) (total (bw B) (bh B)) (total (bw B) (bh B))] }]) rfl rfl)
  simp only [h0] at hE
  ((with_reducible apply Step.callM fit); exact rfl; exact Tryd.func69; exact rfl; exact rfl; exact hE)
  (repeat (first | (with_reducible refine AWo.cons ?_) | ((with_reducible refine Step.id ?_); first | ((with_reducible apply Step.assign); exact rfl; exact rfl) | ((with_reducible apply Step.load); exact rfl; (focus (decide +kernel)); exact rfl; (focus (exact Rd.new rfl rfl)))) | (with_reducible refine AWo.nil ?_) | ((with_reducible apply AW.seq)) | ((with_reducible apply Then.n)) | ((with_reducible apply AW.regL))))
  (refine AW.ret ?_; (repeat (first | refine Then.r ?_ | refine InBlk.r ?_)))
  exact ⟨_, rfl, _, rfl, m.length + 1, by omega, rfl, by rw [get_app]; rfl⟩
set_option maxHeartbeats 8000000 in
set_option maxRecDepth 100000 in
theorem Best_ok {m : AM} {sv kv : Value} {B : Brd} {K : List Kd} (hs : Strs m sv B) (hk : Kds m kv K) (hg : goodB B K = true) :
    ACall Tryd.prog 22 #[sv, kv] m (Ret (.tuple #[.int .i64 (bestM B K), .int .i64 0]) m) := by
  have hgb : boardB B = true := by simp only [goodB, Bool.and_eq_true] at hg; exact hg.1
  have hin := good_in hgb
  refine ACall.drop (Ren.tup2 (.int _ _) (.int _ _)) ?_
  refine ACall.start Tryd.func22 rfl rfl ?_
  (repeat (first | (with_reducible refine AWo.cons ?_) | ((with_reducible refine Step.id ?_); first | ((with_reducible apply Step.move); exact rfl; exact rfl) | ((with_reducible apply Step.assign); exact rfl; exact rfl)) | (with_reducible refine AWo.nil ?_) | ((with_reducible apply AW.seq)) | ((with_reducible apply Then.n)) | ((with_reducible apply AW.regL))))
  ((with_reducible apply Step.callX fit); exact rfl; exact Tryd.func65; exact rfl; exact rfl; exact (newBoard_ok (hs.old _) (hk.old _) hg))
  rintro v m1 ⟨N1, hN1⟩ ⟨p, hp, rfl, hB⟩
  have hok : (wholeR B).ok (bw B) (bh B) := by
    simp only [R4.ok, wholeR]
    omega
  have hat := at_lt hin.2.2.2 hin.2.1 hok
  have hlen : (boardT B K).length = total (bw B) (bh B) := (bestT_ok hin.2.2.2 hin.2.1).len
  have hb2 : ∀ T, ACall Tryd.prog 66 #[.pointer (some ⟨p, 0, none⟩)] (m1 ++ T) _ := fun T => best_ok (hB.old T) hg
  have w1 := fun T => whole_ok (hB.old T)
  have nn := fun T => num_ok (m := T) hin.2.2.2 hin.2.1 hok
  have tw := hB.w
  have th := hB.h
  change ∀ T, ACall Tryd.prog 67 _ _ (Ret (.agg (wholeR B).rc.cells.toArray) _) at w1
  have hrr : (wholeR B).rc = (wholeR B).rc := rfl
  change ∀ T, ACall Tryd.prog 63 #[_, _, .agg (wholeR B).rc.cells.toArray] _ _ at nn
  have hbm : bestM B K = (boardT B K).getD ((wholeR B).at (bw B) (bh B)) 0 := rfl
  rw [hbm]
  generalize (wholeR B).at (bw B) (bh B) = n at *
  clear hrr
  (repeat' (first | (with_reducible refine AWo.cons ?_) | ((with_reducible refine Step.id ?_); first | ((with_reducible apply Step.move); exact rfl; exact rfl) | ((with_reducible apply Step.assign); exact rfl; exact rfl) | ((with_reducible apply Step.load); exact rfl; (focus (decide +kernel)); exact rfl; (focus (exact Rd.old _ (by assumption)))) | ((with_reducible apply Step.field (k := 2)); exact rfl; (focus (decide +kernel)); exact rfl) | ((with_reducible apply Step.field (k := 3)); exact rfl; (focus (decide +kernel)); exact rfl) | ((with_reducible apply Step.ptrNot); exact rfl; exact rfl; exact un100; exact rfl) | ((with_reducible apply Step.nilp); exact rfl; exact rfl)) | (with_reducible refine AWo.nil ?_) | ((with_reducible apply AW.seq)) | ((with_reducible apply Then.n)) | ((with_reducible apply AW.regL)) | ((with_reducible apply AW.drawT fit (T := (.step 0 (.step 2 (.step 3 (.step 4 (.step 6 (.step 7 (.step 8 (.step 10 (.both (.step 1 (.both (.step 5 (.both (.step 9 (.step 11 (.step 12 (.step 13 (.step 14 (.step 15 (.step 16 .done))))))) (.step 11 (.step 9 (.step 12 (.step 13 (.step 14 (.step 15 (.step 16 .done))))))))) (.both (.step 9 (.both (.step 5 (.step 11 (.step 12 (.step 13 (.step 14 (.step 15 (.step 16 .done))))))) (.step 11 (.step 5 (.step 12 (.step 13 (.step 14 (.step 15 (.step 16 .done))))))))) (.step 11 (.step 5 (.step 9 (.step 12 (.step 13 (.step 14 (.step 15 (.step 16 .done))))))))))) (.both (.step 5 (.both (.step 1 (.both (.step 9 (.step 11 (.step 12 (.step 13 (.step 14 (.step 15 (.step 16 .done))))))) (.step 11 (.step 9 (.step 12 (.step 13 (.step 14 (.step 15 (.step 16 .done))))))))) (.step 9 (.step 1 (.step 11 (.step 12 (.step 13 (.step 14 (.step 15 (.step 16 .done)))))))))) (.step 9 (.both (.step 1 (.both (.step 5 (.step 11 (.step 12 (.step 13 (.step 14 (.step 15 (.step 16 .done))))))) (.step 11 (.step 5 (.step 12 (.step 13 (.step 14 (.step 15 (.step 16 .done))))))))) (.step 5 (.step 1 (.step 11 (.step 12 (.step 13 (.step 14 (.step 15 (.step 16 .done)))))))))))))))))))))); (focus (decide +kernel))) | ((with_reducible apply AWt.step); exact rfl) | ((with_reducible apply AW.skip)) | ((with_reducible apply AW.condF); exact rfl; (focus (rfl))) | refine AWt.both ?_ ?_))
  all_goals
    ((with_reducible apply Step.callX fit); exact rfl; exact Tryd.func66; exact rfl; exact rfl; exact (hb2 _))
    rintro v m2 ⟨N2, hN2⟩ ⟨q, hq, rfl, hqc⟩
    have x0 : ∀ T, BoardAt (m2 ++ T) p B K := fun T => by rw [hN2]; exact ((hB.old _).old _).old _
    have x1 := (x0 []).w
    have x2 := (x0 []).h
    rw [List.append_nil] at x1 x2
    have x3 := fun T => whole_ok (x0 T)
    have x4 := rd_iv hqc rfl (k := n) (by omega)
    have x5 : ∃ N, m2 = m ++ N := ⟨N1 ++ N2, by rw [hN2, hN1]; simp⟩
    change ∀ T, ACall Tryd.prog 67 _ _ (Ret (.agg (wholeR B).rc.cells.toArray) _) at x3
    clear hN2 hq hqc
    (repeat' (first | ((with_reducible refine Step.id ?_); first | ((with_reducible apply Step.assign); exact rfl; exact rfl) | ((with_reducible apply Step.load); exact rfl; (focus (decide +kernel)); exact rfl; (focus (exact Rd.old _ (by assumption)))) | ((with_reducible apply Step.ix1z); exact rfl; (focus (exact Sl.mk (by omega))); exact rfl; (focus (decide +kernel)); exact rfl; (focus (omega))) | ((with_reducible apply Step.callR fit); exact rfl; exact Tryd.func67; exact rfl; exact rfl; exact (x3 _)) | ((with_reducible apply Step.callR fit); exact rfl; exact Tryd.func63; exact rfl; exact rfl; exact (nn _))) | ((with_reducible apply Then.n)) | ((with_reducible apply AWt.step); exact rfl) | ((with_reducible apply AWt.done)) | refine AWt.both ?_ ?_))
    all_goals
      (refine AW.ret ?_; (repeat (first | refine Then.r ?_ | refine InBlk.r ?_)))
      obtain ⟨N3, hN3⟩ := x5
      exact ⟨_, rfl, rfl, N3 ++ [], by rw [hN3, List.append_assoc]⟩
end Go.Proofs.YtibhgdglbillaaaDoor.Abs
namespace Go.Proofs.YtibhgdglbillaaaDoor.Abs
set_option linter.unusedSimpArgs false
set_option linter.unusedVariables false
open Go.RowKit
open Go.Proofs.YtibhgdglbillaaaDoor.Sim
open Go.Proofs
theorem bs30 {m : AM} {k : Nat} {a b : ByteArray} : abuildSlice Tryd.prog m k 30 2 [(0, .string a), (1, .string b)] = some (.slice (some ⟨k, 0, none⟩) 2 2, m.set k (some { cells := [.string a, .string b] })) := by kernel_rfl
theorem bl99 {a b c d : Int} : abuild Tryd.prog 99 [(0, .int .i64 a), (1, .int .i64 b), (2, .int .i64 c), (3, .int .i64 d)] = some (.agg #[.int .i64 a, .int .i64 b, .int .i64 c, .int .i64 d, .bool false]) := by kernel_rfl
theorem bs35 {m : AM} {k : Nat} {a b c d a' b' c' d' : Int} {t t' : Bool} : abuildSlice Tryd.prog m k 35 2 [(0, .agg #[.int .i64 a, .int .i64 b, .int .i64 c, .int .i64 d, .bool t]), (1, .agg #[.int .i64 a', .int .i64 b', .int .i64 c', .int .i64 d', .bool t'])] = some (.slice (some ⟨k, 0, none⟩) 2 2, m.set k (some { cells := [.int .i64 a, .int .i64 b, .int .i64 c, .int .i64 d, .bool t, .int .i64 a', .int .i64 b', .int .i64 c', .int .i64 d', .bool t'] })) := by kernel_rfl
def b10 : ByteArray := ⟨#[49, 48]⟩
def b11 : ByteArray := ⟨#[49, 49]⟩
def awB : Brd := [b10, b11]
def awK : List Kd := [⟨2, 1, 1, 5, false⟩, ⟨1, 1, 1, 2, false⟩]
theorem aw_good : goodB awB awK = true := by decide +kernel
theorem aw_best : bestM awB awK = 7 := by kernel_rfl
set_option maxRecDepth 100000 in
theorem awake_ok {m : AM} : ACall Tryd.prog 21 #[] m (Ret (.bool true) m) := by
  have hS : ∀ (T : AM), Strs (m ++ (some { cells := [.string b10, .string b11] } :: T)) (.slice (some ⟨m.length + 0, 0, none⟩) 2 2) awB := fun T =>
    ⟨m.length + 0, 0, Sl.mk (by decide), by simp, fun y hy => by
      rcases (show y = 0 ∨ y = 1 by simp [awB] at hy; omega) with rfl | rfl
      · exact Rd.new rfl rfl
      · exact Rd.new rfl rfl⟩
  have hK : ∀ (b0 : Option Blk) (T : AM), Kds (m ++ (b0 :: some { cells := [.int .i64 2, .int .i64 1, .int .i64 1, .int .i64 5, .bool false, .int .i64 1, .int .i64 1, .int .i64 1, .int .i64 2, .bool false] } :: T)) (.slice (some ⟨m.length + 1, 0, none⟩) 2 2) awK := fun b0 T =>
    ⟨m.length + 1, 0, Sl.mk (by decide), by simp, fun y hy => by
      rcases (show y = 0 ∨ y = 1 by simp [awK] at hy; omega) with rfl | rfl
      · refine ⟨_, by rw [get_app]; rfl, fun j v hj => ?_⟩
        rcases j with _ | _ | _ | _ | _ | j
        all_goals first | exact hj | (simp [Kd.cells, awK] at hj)
      · refine ⟨_, by rw [get_app]; rfl, fun j v hj => ?_⟩
        rcases j with _ | _ | _ | _ | _ | j
        all_goals first | exact hj | (simp [Kd.cells, awK] at hj)⟩
  have hb := fun T => Best_ok (m := m ++ (some { cells := [.string b10, .string b11] } :: some { cells := [.int .i64 2, .int .i64 1, .int .i64 1, .int .i64 5, .bool false, .int .i64 1, .int .i64 1, .int .i64 1, .int .i64 2, .bool false] } :: T)) (hS _) (hK _ T) aw_good
  rw [aw_best] at hb
  refine ACall.start Tryd.func21 rfl rfl ?_
  (repeat (first | (with_reducible refine AWo.cons ?_) | ((with_reducible refine Step.id ?_); first | ((with_reducible apply Step.gdT); exact rfl; exact rfl; (focus (rfl))) | ((with_reducible apply Step.move); exact rfl; exact rfl) | ((with_reducible apply Step.assign); exact rfl; exact rfl) | ((with_reducible apply Step.eql); exact rfl; exact rfl; exact rfl) | ((with_reducible apply Step.extract); exact rfl; exact rfl; exact rfl) | ((with_reducible apply Step.pickT); exact rfl; exact rfl; exact rfl; exact rfl; (focus (rfl))) | ((with_reducible apply Step.callR fit); exact rfl; exact Tryd.func22; exact rfl; exact rfl; exact (hb _)) | ((with_reducible apply Step.buildS 0); exact rfl; exact rfl; exact (fun _ _ => bs30); exact rfl; (focus (first | (simp only [List.nil_append, List.cons_append, List.set_cons_zero, List.set_cons_succ, iv_set, bv_set, iv_rep, bv_rep]; done) | (simp only [List.nil_append, List.cons_append, List.set_cons_zero, List.set_cons_succ, iv_set, bv_set, iv_rep, bv_rep]; rfl) | rfl))) | ((with_reducible apply Step.buildS 1); exact rfl; exact rfl; exact (fun _ _ => bs35); exact rfl; (focus (first | (simp only [List.nil_append, List.cons_append, List.set_cons_zero, List.set_cons_succ, iv_set, bv_set, iv_rep, bv_rep]; done) | (simp only [List.nil_append, List.cons_append, List.set_cons_zero, List.set_cons_succ, iv_set, bv_set, iv_rep, bv_rep]; rfl) | rfl))) | ((with_reducible apply Step.build); exact rfl; exact bl99; exact rfl)) | (with_reducible refine AWo.nil ?_) | ((with_reducible apply AW.seq)) | ((with_reducible apply Then.n)) | ((with_reducible apply AW.regL))))
  (refine AW.retD (l := [(0, _)]) (by repeat (first | exact trivial | (refine And.intro ⟨rfl, by (exact .bool _)⟩ ?_))) ?_; (repeat (first | refine Then.r ?_ | refine InBlk.r ?_)))
  exact ⟨_, rfl, rfl, rfl⟩
end Go.Proofs.YtibhgdglbillaaaDoor.Abs
namespace Go.Proofs.YtibhgdglbillaaaDoor.Abs
set_option linter.unusedSimpArgs false
set_option linter.unusedVariables false
open Go.RowKit
open Go.Proofs.YtibhgdglbillaaaDoor.Sim
open Go.Proofs
set_option maxRecDepth 100000 in
theorem RGrade_ok {m : AM} {sv : Value} {B : Brd} (hs : Strs m sv B) (hv : skinB B = true) {x y : Nat} (hy : y < bh B) (hx : x < bw B) :
    ACall Tryd.prog 93 #[sv, .int .i64 (x : Nat), .int .i64 (y : Nat)] m (Ret (.int .i64 (gr B x y)) m) := by
  obtain ⟨A, O, sl, la, rd⟩ := hs
  obtain ⟨z1, z2⟩ := skin_row hv hy
  have z3 := z2 x hx
  have rk := rd y hy
  unfold bh at hy
  have r0 := rd 0 (by omega)
  have z4 : (rowOf B 0).size = bw B := rfl
  refine ACall.start Tryd.func93 rfl rfl ?_
  (repeat (first | (with_reducible refine AWo.cons ?_) | ((with_reducible refine Step.id ?_); first | ((with_reducible apply Step.gdT); exact rfl; exact rfl; (focus (first | rfl | (simp only [decide_eq_true_eq, decide_eq_false_iff_not, Bool.not_eq_true', Bool.not_eq_false', Bool.not_true, Bool.not_false]; first | assumption | omega)))) | ((with_reducible apply Step.move); exact rfl; exact rfl) | ((with_reducible apply Step.assign); exact rfl; exact rfl) | ((with_reducible apply Step.load); exact rfl; (focus (decide +kernel)); exact rfl; (focus (exact Rd.old _ (by assumption)))) | ((with_reducible apply Step.ix1); exact rfl; (focus (assumption)); exact rfl; (focus (decide +kernel)); exact rfl; (focus (omega))) | ((with_reducible apply Step.ix1 (k := 0)); exact rfl; (focus (assumption)); exact rfl; (focus (decide +kernel)); exact rfl; (focus (omega))) | ((with_reducible apply Step.strIx); exact rfl; exact rfl; exact un9; (focus (omega)); exact rfl) | ((with_reducible apply Step.lenS); exact rfl; exact un9; exact rfl) | ((with_reducible apply Step.subU); exact rfl; exact rfl; (focus (omega)); exact rfl) | ((with_reducible apply Step.u8I); exact rfl; exact un5; exact un3; (focus (omega)); exact rfl) | ((with_reducible apply Step.lss); exact rfl; exact rfl; exact rfl) | ((with_reducible apply Step.geq); exact rfl; exact rfl; exact rfl) | ((with_reducible apply Step.len); exact rfl; (focus (assumption)); (focus (decide +kernel)); exact rfl) | ((with_reducible apply Step.pickF); exact rfl; exact rfl; exact rfl; exact rfl; (focus (first | rfl | (simp only [decide_eq_true_eq, decide_eq_false_iff_not, Bool.not_eq_true', Bool.not_eq_false', Bool.not_true, Bool.not_false]; first | assumption | omega))))) | (with_reducible refine AWo.nil ?_) | ((with_reducible apply AW.seq)) | ((with_reducible apply Then.n)) | ((with_reducible apply AW.regL)) | ((with_reducible apply AW.skip)) | ((with_reducible apply AW.condF); exact rfl; (focus ((simp only [decide_eq_true_eq, decide_eq_false_iff_not, Bool.not_eq_true', Bool.not_eq_false', Bool.not_true, Bool.not_false]; first | assumption | omega))))))
  (refine AW.retD (l := [(6, _)]) (by repeat (first | exact trivial | (refine And.intro ⟨rfl, by (exact .int _ _)⟩ ?_))) ?_; (repeat (first | refine Then.r ?_ | refine InBlk.r ?_)))
  exact ⟨_, rfl, rfl, rfl⟩
set_option maxHeartbeats 4000000 in
set_option maxRecDepth 100000 in
theorem RCount_ok {m : AM} {sv : Value} {B : Brd} {g : Int} (hs : Strs m sv B) (hv : boardB B = true) {r : R4} (hr : r.ok (bw B) (bh B)) :
    ACall Tryd.prog 56 #[sv, .int .i64 g, r.rc.v] m (Ret (.int .i64 (cnt B g r.x r.y r.a r.b : Nat)) m) := by
  have hin := good_in hv
  have hsk : skinB B = true := by simp only [boardB, Bool.and_eq_true] at hv; exact hv.1
  have hG := fun T x y hy hx => RGrade_ok (hs.old T) hsk (x := x) (y := y) hy hx
  obtain ⟨A, O, sl, la, rd⟩ := hs
  obtain ⟨q, c, rfl⟩ := sl.shape
  have wl : Low m.length (.slice q B.length c) := Low.of_sl sl la
  obtain ⟨x, y, a, b⟩ := r
  simp only [R4.ok] at hr
  have e1 : (y : Int) + (b : Int) = ((y + b : Nat) : Int) := by omega
  have e2 : (x : Int) + (a : Int) = ((x + a : Nat) : Int) := by omega
  change ACall Tryd.prog 56 #[_, _, .agg #[.int .i64 (x : Nat), .int .i64 (y : Nat), .int .i64 (a : Nat), .int .i64 (b : Nat)]] m (Ret (.int .i64 (cnt B g x y a b : Nat)) m)
  refine ACall.start Tryd.func56 rfl rfl ?_
  (repeat (first | (with_reducible refine AWo.cons ?_) | ((with_reducible refine Step.id ?_); first | ((with_reducible apply Step.assign); exact rfl; exact rfl) | ((with_reducible apply Step.load); exact rfl; (focus (decide +kernel)); exact rfl; (focus (exact Rd.new rfl rfl))) | ((with_reducible apply Step.field (k := 1)); exact rfl; (focus (decide +kernel)); exact rfl) | ((with_reducible apply Step.box 0); exact rfl; exact rfl; (focus (kernel_rfl)); exact rfl; (focus (first | (simp only [List.nil_append, List.cons_append, List.set_cons_zero, List.set_cons_succ, iv_set, bv_set, iv_rep, bv_rep]; done) | (simp only [List.nil_append, List.cons_append, List.set_cons_zero, List.set_cons_succ, iv_set, bv_set, iv_rep, bv_rep]; rfl) | rfl)))) | (with_reducible refine AWo.nil ?_) | ((with_reducible apply AW.seq)) | ((with_reducible apply Then.n)) | ((with_reducible apply AW.regL)) | ((with_reducible apply AW.block))))
  refine AW.loopT (fun n t L => ∃ k : Nat, n = b - k ∧ k ≤ b ∧ L = [some { cells := [.int .i64 (x : Nat), .int .i64 (y : Nat), .int .i64 (a : Nat), .int .i64 (b : Nat)] }] ∧
    t = [(0, .slice q B.length c), (1, .int .i64 g), (5, .pointer (some ⟨m.length + 0, 0, none⟩)), (7, .int .i64 (cnt B g x y a k : Nat)), (8, .int .i64 (y + k : Nat))])
    ⟨_, _, _, (Or.inl ⟨rfl, (by repeat (first | exact trivial | (refine And.intro rfl ?_)))⟩), 0, rfl, Nat.zero_le _, rfl, rfl⟩ ?_
  rintro n t L ⟨k, rfl, hk, rfl, rfl⟩
  rcases Nat.lt_or_ge k b with hkb | hkb
  · (repeat (first | (with_reducible refine AWo.cons ?_) | ((with_reducible refine Step.id ?_); first | ((with_reducible apply Step.move); exact rfl; exact rfl) | ((with_reducible apply Step.assign); exact rfl; exact rfl) | ((with_reducible apply Step.load); exact rfl; (focus (decide +kernel)); exact rfl; (focus (exact Rd.new rfl rfl))) | ((with_reducible apply Step.field0); exact rfl; (focus (decide +kernel)); exact rfl) | ((with_reducible apply Step.field (k := 1)); exact rfl; (focus (decide +kernel)); exact rfl) | ((with_reducible apply Step.field (k := 3)); exact rfl; (focus (decide +kernel)); exact rfl) | ((with_reducible apply Step.addE); exact rfl; exact rfl; (focus (assumption)); (focus (omega)); exact rfl) | ((with_reducible apply Step.lss); exact rfl; exact rfl; exact rfl)) | (with_reducible refine AWo.nil ?_) | ((with_reducible apply AW.seq)) | ((with_reducible apply Then.n)) | ((with_reducible apply AW.regL)) | ((with_reducible apply AW.block)) | ((with_reducible apply AW.skip)) | ((with_reducible apply AW.condT); exact rfl; (focus ((simp only [decide_eq_true_eq, decide_eq_false_iff_not, Bool.not_eq_true', Bool.not_eq_false', Bool.not_true, Bool.not_false]; first | assumption | omega))))))
    refine AW.loopT (fun n t L => ∃ i : Nat, n = a - i ∧ i ≤ a ∧ L = [some { cells := [.int .i64 (x : Nat), .int .i64 (y : Nat), .int .i64 (a : Nat), .int .i64 (b : Nat)] }] ∧
      t = [(0, .slice q B.length c), (1, .int .i64 g), (5, .pointer (some ⟨m.length + 0, 0, none⟩)), (7, .int .i64 (cnt B g x y a k + rowc B g (y + k) x i : Nat)), (8, .int .i64 (y + k : Nat)), (9, .int .i64 (x + i : Nat))])
      ⟨_, _, _, (Or.inl ⟨rfl, (by repeat (first | exact trivial | (refine And.intro rfl ?_)))⟩), 0, rfl, Nat.zero_le _, rfl, rfl⟩ ?_
    rintro n t L ⟨i, rfl, hi, rfl, rfl⟩
    rcases Nat.lt_or_ge i a with hia | hia
    · have hGi := fun T => hG T (x + i) (y + k) (by omega) (by omega)
      have c1 := cnt_le B g x y a k
      have c2 : a * k ≤ 16 * 16 := Nat.mul_le_mul (by omega) (by omega)
      have c3 := rowc_le B g (y + k) x i
      by_cases hgr : g ≤ gr B (x + i) (y + k)
      · have er : rowc B g (y + k) x (i + 1) = rowc B g (y + k) x i + 1 := by simp [rowc, hgr]
        (repeat (first | (with_reducible refine AWo.cons ?_) | ((with_reducible refine Step.id ?_); first | ((with_reducible apply Step.move); exact rfl; exact rfl) | ((with_reducible apply Step.assign); exact rfl; exact rfl) | ((with_reducible apply Step.load); exact rfl; (focus (decide +kernel)); exact rfl; (focus (exact Rd.new rfl rfl))) | ((with_reducible apply Step.field0); exact rfl; (focus (decide +kernel)); exact rfl) | ((with_reducible apply Step.field (k := 2)); exact rfl; (focus (decide +kernel)); exact rfl) | ((with_reducible apply Step.addE); exact rfl; exact rfl; (focus (assumption)); (focus (omega)); exact rfl) | ((with_reducible apply Step.add); exact rfl; exact rfl; (focus (omega)); exact rfl) | ((with_reducible apply Step.lss); exact rfl; exact rfl; exact rfl) | ((with_reducible apply Step.geq); exact rfl; exact rfl; exact rfl) | ((with_reducible apply Step.callR fit); exact rfl; exact Tryd.func93; exact rfl; exact rfl; exact (hGi _))) | (with_reducible refine AWo.nil ?_) | ((with_reducible apply AW.seq)) | ((with_reducible apply Then.n)) | ((with_reducible apply AW.regL)) | ((with_reducible apply AW.block)) | ((with_reducible apply InBlk.n)) | ((with_reducible apply AW.skip)) | ((with_reducible apply AW.condT); exact rfl; (focus ((simp only [decide_eq_true_eq, decide_eq_false_iff_not, Bool.not_eq_true', Bool.not_eq_false', Bool.not_true, Bool.not_false]; first | assumption | omega))))))
        exact ⟨_, [(0, .slice q B.length c), (1, .int .i64 g), (5, .pointer (some ⟨m.length + 0, 0, none⟩)), (7, .int .i64 (cnt B g x y a k + rowc B g (y + k) x i + 1 : Nat)), (8, .int .i64 (y + k : Nat)), (9, .int .i64 (x + i + 1 : Nat))], _, by omega, (Or.inl ⟨rfl, (by repeat (first | exact trivial | (refine And.intro rfl ?_)))⟩), i + 1, rfl, by omega, rfl, by rw [er]; rfl⟩
      · have er : rowc B g (y + k) x (i + 1) = rowc B g (y + k) x i := by simp [rowc, hgr]
        (repeat (first | (with_reducible refine AWo.cons ?_) | ((with_reducible refine Step.id ?_); first | ((with_reducible apply Step.move); exact rfl; exact rfl) | ((with_reducible apply Step.assign); exact rfl; exact rfl) | ((with_reducible apply Step.load); exact rfl; (focus (decide +kernel)); exact rfl; (focus (exact Rd.new rfl rfl))) | ((with_reducible apply Step.field0); exact rfl; (focus (decide +kernel)); exact rfl) | ((with_reducible apply Step.field (k := 2)); exact rfl; (focus (decide +kernel)); exact rfl) | ((with_reducible apply Step.addE); exact rfl; exact rfl; (focus (assumption)); (focus (omega)); exact rfl) | ((with_reducible apply Step.add); exact rfl; exact rfl; (focus (omega)); exact rfl) | ((with_reducible apply Step.lss); exact rfl; exact rfl; exact rfl) | ((with_reducible apply Step.geq); exact rfl; exact rfl; exact rfl) | ((with_reducible apply Step.callR fit); exact rfl; exact Tryd.func93; exact rfl; exact rfl; exact (hGi _))) | (with_reducible refine AWo.nil ?_) | ((with_reducible apply AW.seq)) | ((with_reducible apply Then.n)) | ((with_reducible apply AW.regL)) | ((with_reducible apply AW.block)) | ((with_reducible apply InBlk.n)) | ((with_reducible apply AW.skip)) | ((with_reducible apply AW.condT); exact rfl; (focus ((simp only [decide_eq_true_eq, decide_eq_false_iff_not, Bool.not_eq_true', Bool.not_eq_false', Bool.not_true, Bool.not_false]; first | assumption | omega)))) | ((with_reducible apply AW.condF); exact rfl; (focus ((simp only [decide_eq_true_eq, decide_eq_false_iff_not, Bool.not_eq_true', Bool.not_eq_false', Bool.not_true, Bool.not_false]; first | assumption | omega))))))
        exact ⟨_, [(0, .slice q B.length c), (1, .int .i64 g), (5, .pointer (some ⟨m.length + 0, 0, none⟩)), (7, .int .i64 (cnt B g x y a k + rowc B g (y + k) x i : Nat)), (8, .int .i64 (y + k : Nat)), (9, .int .i64 (x + i + 1 : Nat))], _, by omega, (Or.inl ⟨rfl, (by repeat (first | exact trivial | (refine And.intro rfl ?_)))⟩), i + 1, rfl, by omega, rfl, by rw [er]; rfl⟩
    · obtain rfl : i = a := by omega
      (repeat (first | (with_reducible refine AWo.cons ?_) | ((with_reducible refine Step.id ?_); first | ((with_reducible apply Step.move); exact rfl; exact rfl) | ((with_reducible apply Step.assign); exact rfl; exact rfl) | ((with_reducible apply Step.load); exact rfl; (focus (decide +kernel)); exact rfl; (focus (exact Rd.new rfl rfl))) | ((with_reducible apply Step.field0); exact rfl; (focus (decide +kernel)); exact rfl) | ((with_reducible apply Step.field (k := 2)); exact rfl; (focus (decide +kernel)); exact rfl) | ((with_reducible apply Step.addE); exact rfl; exact rfl; (focus (assumption)); (focus (omega)); exact rfl) | ((with_reducible apply Step.add); exact rfl; exact rfl; (focus (omega)); exact rfl) | ((with_reducible apply Step.lss); exact rfl; exact rfl; exact rfl)) | (with_reducible refine AWo.nil ?_) | ((with_reducible apply AW.seq)) | ((with_reducible apply Then.n)) | ((with_reducible apply AW.regL)) | ((with_reducible apply AW.exit)) | ((with_reducible apply InBlk.n)) | ((with_reducible apply InBlk.hit)) | ((with_reducible apply Then.e)) | ((with_reducible apply AW.condF); exact rfl; (focus ((simp only [decide_eq_true_eq, decide_eq_false_iff_not, Bool.not_eq_true', Bool.not_eq_false', Bool.not_true, Bool.not_false]; first | assumption | omega))))))
      exact ⟨_, [(0, .slice q B.length c), (1, .int .i64 g), (5, .pointer (some ⟨m.length + 0, 0, none⟩)), (7, .int .i64 (cnt B g x y i k + rowc B g (y + k) x i : Nat)), (8, .int .i64 (y + k + 1 : Nat))], _, by omega, (Or.inl ⟨rfl, (by repeat (first | exact trivial | (refine And.intro rfl ?_)))⟩), k + 1, rfl, by omega, rfl, rfl⟩
  · obtain rfl : k = b := by omega
    (repeat (first | (with_reducible refine AWo.cons ?_) | ((with_reducible refine Step.id ?_); first | ((with_reducible apply Step.move); exact rfl; exact rfl) | ((with_reducible apply Step.assign); exact rfl; exact rfl) | ((with_reducible apply Step.load); exact rfl; (focus (decide +kernel)); exact rfl; (focus (exact Rd.new rfl rfl))) | ((with_reducible apply Step.field (k := 1)); exact rfl; (focus (decide +kernel)); exact rfl) | ((with_reducible apply Step.field (k := 3)); exact rfl; (focus (decide +kernel)); exact rfl) | ((with_reducible apply Step.addE); exact rfl; exact rfl; (focus (assumption)); (focus (omega)); exact rfl) | ((with_reducible apply Step.lss); exact rfl; exact rfl; exact rfl)) | (with_reducible refine AWo.nil ?_) | ((with_reducible apply AW.seq)) | ((with_reducible apply Then.n)) | ((with_reducible apply AW.regL)) | ((with_reducible apply AW.exit)) | ((with_reducible apply InBlk.hit)) | ((with_reducible apply Then.e)) | ((with_reducible apply AW.condF); exact rfl; (focus ((simp only [decide_eq_true_eq, decide_eq_false_iff_not, Bool.not_eq_true', Bool.not_eq_false', Bool.not_true, Bool.not_false]; first | assumption | omega))))))
    (refine AW.retD (l := [(6, _)]) (by repeat (first | exact trivial | (refine And.intro ⟨rfl, by (exact .int _ _)⟩ ?_))) ?_; (repeat (first | refine Then.r ?_ | refine InBlk.r ?_)))
    exact ⟨_, rfl, rfl, rfl⟩
end Go.Proofs.YtibhgdglbillaaaDoor.Abs
namespace Go.Proofs.YtibhgdglbillaaaDoor.Abs
set_option linter.unusedSimpArgs false
set_option linter.unusedVariables false
open Go.RowKit
open Go.Proofs.YtibhgdglbillaaaDoor.Sim
open Go.Proofs
set_option maxHeartbeats 4000000 in
set_option maxRecDepth 100000 in
theorem RFits_ok {m : AM} {sv : Value} {B : Brd} (hs : Strs m sv B) (hv : boardB B = true) (k : Kd) {r : R4} (hr : r.ok (bw B) (bh B)) :
    ACall Tryd.prog 55 #[sv, k.v, r.rc.v] m (Ret (.tuple #[.bool (okB B k r), .bool (okB B k r && turnedB k r)]) m) := by
  have hin := good_in hv
  have hab := area_le hin.2.2.2 hin.2.1 hr
  have hC := fun T => RCount_ok (g := k.g) (hs.old T) hv hr
  obtain ⟨A, O, sl, la, rd⟩ := hs
  obtain ⟨q, c, rfl⟩ := sl.shape
  obtain ⟨kw, kh, kg, ko, kt⟩ := k
  obtain ⟨x, y, a, bb⟩ := r
  simp only at hab hC
  have e1 : (a : Int) * (bb : Int) = ((a * bb : Nat) : Int) := by simp
  change ACall Tryd.prog 55 #[_, .agg #[.int .i64 kw, .int .i64 kh, .int .i64 kg, .int .i64 ko, .bool kt], .agg #[.int .i64 (x : Nat), .int .i64 (y : Nat), .int .i64 (a : Nat), .int .i64 (bb : Nat)]] m _
  change ∀ T, ACall Tryd.prog 56 #[_, _, .agg #[.int .i64 (x : Nat), .int .i64 (y : Nat), .int .i64 (a : Nat), .int .i64 (bb : Nat)]] (m ++ T) _ at hC
  have no : okB B ⟨kw, kh, kg, ko, kt⟩ ⟨x, y, a, bb⟩ = false → Ret (.tuple #[.bool (okB B ⟨kw, kh, kg, ko, kt⟩ ⟨x, y, a, bb⟩), .bool (okB B ⟨kw, kh, kg, ko, kt⟩ ⟨x, y, a, bb⟩ && turnedB ⟨kw, kh, kg, ko, kt⟩ ⟨x, y, a, bb⟩)]) m (.tuple #[.bool false, .bool false]) m := fun h => by
    rw [h]; exact ⟨rfl, rfl⟩
  have yes : ∀ tn, okB B ⟨kw, kh, kg, ko, kt⟩ ⟨x, y, a, bb⟩ = true → turnedB ⟨kw, kh, kg, ko, kt⟩ ⟨x, y, a, bb⟩ = tn → Ret (.tuple #[.bool (okB B ⟨kw, kh, kg, ko, kt⟩ ⟨x, y, a, bb⟩), .bool (okB B ⟨kw, kh, kg, ko, kt⟩ ⟨x, y, a, bb⟩ && turnedB ⟨kw, kh, kg, ko, kt⟩ ⟨x, y, a, bb⟩)]) m (.tuple #[.bool true, .bool tn]) m := fun tn h h2 => by
    rw [h, h2]; exact ⟨rfl, rfl⟩
  have hok : okB B ⟨kw, kh, kg, ko, kt⟩ ⟨x, y, a, bb⟩ = ((upB ⟨kw, kh, kg, ko, kt⟩ ⟨x, y, a, bb⟩ || tnB ⟨kw, kh, kg, ko, kt⟩ ⟨x, y, a, bb⟩) && decide (cnt B kg x y a bb = a * bb)) := rfl
  refine ACall.start Tryd.func55 rfl rfl ?_
  by_cases u : kw = (a : Int) ∧ kh = (bb : Int)
  · have hup : upB ⟨kw, kh, kg, ko, kt⟩ ⟨x, y, a, bb⟩ = true := decide_eq_true u
    obtain ⟨u1, u2⟩ := u
    by_cases hcc : cnt B kg x y a bb = a * bb
    · have hy : okB B ⟨kw, kh, kg, ko, kt⟩ ⟨x, y, a, bb⟩ = true := by rw [hok, hup, decide_eq_true hcc]; rfl
      (repeat' (first | (with_reducible refine AWo.cons ?_) | ((with_reducible refine Step.id ?_); first | ((with_reducible apply Step.gdU); exact rfl; exact rfl) | ((with_reducible apply Step.gdT); exact rfl; exact rfl; (focus ((simp only [decide_eq_true_eq, decide_eq_false_iff_not, Bool.not_eq_true', Bool.not_eq_false', Bool.not_true, Bool.not_false]; first | assumption | omega)))) | ((with_reducible apply Step.gdF); exact rfl; exact rfl; (focus ((simp only [decide_eq_true_eq, decide_eq_false_iff_not, Bool.not_eq_true', Bool.not_eq_false', Bool.not_true, Bool.not_false]; first | assumption | omega)))) | ((with_reducible apply Step.move); exact rfl; exact rfl) | ((with_reducible apply Step.assign); exact rfl; exact rfl) | ((with_reducible apply Step.load); exact rfl; (focus (decide +kernel)); exact rfl; (focus (exact Rd.new rfl rfl))) | ((with_reducible apply Step.loadL (n := 4)); exact rfl; (focus (decide +kernel)); (focus (decide +kernel)); exact rfl; (focus (exact RdL.new rfl rfl)); exact rfl; exact rfl) | ((with_reducible apply Step.field0); exact rfl; (focus (decide +kernel)); exact rfl) | ((with_reducible apply Step.field (k := 1)); exact rfl; (focus (decide +kernel)); exact rfl) | ((with_reducible apply Step.field (k := 2)); exact rfl; (focus (decide +kernel)); exact rfl) | ((with_reducible apply Step.field (k := 3)); exact rfl; (focus (decide +kernel)); exact rfl) | ((with_reducible apply Step.mulE); exact rfl; exact rfl; (focus (assumption)); (focus (omega)); exact rfl) | ((with_reducible apply Step.eql); exact rfl; exact rfl; exact rfl) | ((with_reducible apply Step.neq); exact rfl; exact rfl; exact rfl) | ((with_reducible apply Step.not); exact rfl; exact rfl) | ((with_reducible apply Step.pickT); exact rfl; exact rfl; exact rfl; exact rfl; (focus ((simp only [decide_eq_true_eq, decide_eq_false_iff_not, Bool.not_eq_true', Bool.not_eq_false', Bool.not_true, Bool.not_false]; first | assumption | omega)))) | ((with_reducible apply Step.pickF); exact rfl; exact rfl; exact rfl; exact rfl; (focus ((simp only [decide_eq_true_eq, decide_eq_false_iff_not, Bool.not_eq_true', Bool.not_eq_false', Bool.not_true, Bool.not_false]; first | assumption | omega)))) | ((with_reducible apply Step.callR fit); exact rfl; exact Tryd.func56; exact rfl; exact rfl; exact (hC _)) | ((with_reducible apply Step.box 0); exact rfl; exact rfl; (focus (kernel_rfl)); exact rfl; (focus (first | (simp only [List.nil_append, List.cons_append, List.set_cons_zero, List.set_cons_succ, iv_set, bv_set, iv_rep, bv_rep]; done) | (simp only [List.nil_append, List.cons_append, List.set_cons_zero, List.set_cons_succ, iv_set, bv_set, iv_rep, bv_rep]; rfl) | rfl))) | ((with_reducible apply Step.box 1); exact rfl; exact rfl; (focus (kernel_rfl)); exact rfl; (focus (first | (simp only [List.nil_append, List.cons_append, List.set_cons_zero, List.set_cons_succ, iv_set, bv_set, iv_rep, bv_rep]; done) | (simp only [List.nil_append, List.cons_append, List.set_cons_zero, List.set_cons_succ, iv_set, bv_set, iv_rep, bv_rep]; rfl) | rfl)))) | (with_reducible refine AWo.nil ?_) | ((with_reducible apply AW.seq)) | ((with_reducible apply Then.n)) | ((with_reducible apply AW.regL)) | ((with_reducible apply AW.drawT fit (T := (.step 0 (.step 1 (.step 2 (.step 3 (.step 5 (.step 7 (.both (.step 4 (.step 6 (.step 8 (.step 9 (.step 10 .done))))) (.both (.step 6 (.both (.step 4 (.step 8 (.step 9 (.step 10 .done)))) (.step 8 (.step 9 (.step 4 (.step 10 .done)))))) (.step 8 (.both (.step 4 (.step 6 (.step 9 (.step 10 .done)))) (.step 6 (.step 9 (.step 4 (.step 10 .done)))))))))))))))); (focus (decide +kernel))) | ((with_reducible apply AWt.step); exact rfl) | ((with_reducible apply AWt.done)) | ((with_reducible apply AW.skip)) | ((with_reducible apply AW.condF); exact rfl; (focus (first | rfl | (simp only [decide_eq_true_eq, decide_eq_false_iff_not, Bool.not_eq_true', Bool.not_eq_false', Bool.not_true, Bool.not_false]; first | assumption | omega)))) | refine AWt.both ?_ ?_))
      all_goals
        (refine AW.retD (l := [(6, _), (7, _)]) (by repeat (first | exact trivial | (refine And.intro ⟨rfl, by (exact .bool _)⟩ ?_))) ?_; (repeat (first | refine Then.r ?_ | refine InBlk.r ?_)))
        exact ⟨_, rfl, yes _ hy (by unfold turnedB; rw [hup]; simp [u1, u2])⟩
    · have hn : okB B ⟨kw, kh, kg, ko, kt⟩ ⟨x, y, a, bb⟩ = false := by rw [hok, decide_eq_false hcc, Bool.and_false]
      (repeat' (first | (with_reducible refine AWo.cons ?_) | ((with_reducible refine Step.id ?_); first | ((with_reducible apply Step.gdU); exact rfl; exact rfl) | ((with_reducible apply Step.gdT); exact rfl; exact rfl; (focus ((simp only [decide_eq_true_eq, decide_eq_false_iff_not, Bool.not_eq_true', Bool.not_eq_false', Bool.not_true, Bool.not_false]; first | assumption | omega)))) | ((with_reducible apply Step.gdF); exact rfl; exact rfl; (focus ((simp only [decide_eq_true_eq, decide_eq_false_iff_not, Bool.not_eq_true', Bool.not_eq_false', Bool.not_true, Bool.not_false]; first | assumption | omega)))) | ((with_reducible apply Step.move); exact rfl; exact rfl) | ((with_reducible apply Step.assign); exact rfl; exact rfl) | ((with_reducible apply Step.load); exact rfl; (focus (decide +kernel)); exact rfl; (focus (exact Rd.new rfl rfl))) | ((with_reducible apply Step.loadL (n := 4)); exact rfl; (focus (decide +kernel)); (focus (decide +kernel)); exact rfl; (focus (exact RdL.new rfl rfl)); exact rfl; exact rfl) | ((with_reducible apply Step.field0); exact rfl; (focus (decide +kernel)); exact rfl) | ((with_reducible apply Step.field (k := 1)); exact rfl; (focus (decide +kernel)); exact rfl) | ((with_reducible apply Step.field (k := 2)); exact rfl; (focus (decide +kernel)); exact rfl) | ((with_reducible apply Step.field (k := 3)); exact rfl; (focus (decide +kernel)); exact rfl) | ((with_reducible apply Step.mulE); exact rfl; exact rfl; (focus (assumption)); (focus (omega)); exact rfl) | ((with_reducible apply Step.eql); exact rfl; exact rfl; exact rfl) | ((with_reducible apply Step.neq); exact rfl; exact rfl; exact rfl) | ((with_reducible apply Step.not); exact rfl; exact rfl) | ((with_reducible apply Step.pickT); exact rfl; exact rfl; exact rfl; exact rfl; (focus ((simp only [decide_eq_true_eq, decide_eq_false_iff_not, Bool.not_eq_true', Bool.not_eq_false', Bool.not_true, Bool.not_false]; first | assumption | omega)))) | ((with_reducible apply Step.pickF); exact rfl; exact rfl; exact rfl; exact rfl; (focus ((simp only [decide_eq_true_eq, decide_eq_false_iff_not, Bool.not_eq_true', Bool.not_eq_false', Bool.not_true, Bool.not_false]; first | assumption | omega)))) | ((with_reducible apply Step.callR fit); exact rfl; exact Tryd.func56; exact rfl; exact rfl; exact (hC _)) | ((with_reducible apply Step.box 0); exact rfl; exact rfl; (focus (kernel_rfl)); exact rfl; (focus (first | (simp only [List.nil_append, List.cons_append, List.set_cons_zero, List.set_cons_succ, iv_set, bv_set, iv_rep, bv_rep]; done) | (simp only [List.nil_append, List.cons_append, List.set_cons_zero, List.set_cons_succ, iv_set, bv_set, iv_rep, bv_rep]; rfl) | rfl))) | ((with_reducible apply Step.box 1); exact rfl; exact rfl; (focus (kernel_rfl)); exact rfl; (focus (first | (simp only [List.nil_append, List.cons_append, List.set_cons_zero, List.set_cons_succ, iv_set, bv_set, iv_rep, bv_rep]; done) | (simp only [List.nil_append, List.cons_append, List.set_cons_zero, List.set_cons_succ, iv_set, bv_set, iv_rep, bv_rep]; rfl) | rfl)))) | (with_reducible refine AWo.nil ?_) | ((with_reducible apply AW.seq)) | ((with_reducible apply Then.n)) | ((with_reducible apply AW.regL)) | ((with_reducible apply AW.drawT fit (T := (.step 0 (.step 1 (.step 2 (.step 3 (.step 5 (.step 7 (.both (.step 4 (.step 6 (.step 8 (.step 9 (.step 10 .done))))) (.both (.step 6 (.both (.step 4 (.step 8 (.step 9 (.step 10 .done)))) (.step 8 (.step 9 (.step 4 (.step 10 .done)))))) (.step 8 (.both (.step 4 (.step 6 (.step 9 (.step 10 .done)))) (.step 6 (.step 9 (.step 4 (.step 10 .done)))))))))))))))); (focus (decide +kernel))) | ((with_reducible apply AWt.step); exact rfl) | ((with_reducible apply AWt.done)) | ((with_reducible apply AW.skip)) | ((with_reducible apply AW.condT); exact rfl; (focus ((simp only [decide_eq_true_eq, decide_eq_false_iff_not, Bool.not_eq_true', Bool.not_eq_false', Bool.not_true, Bool.not_false]; first | assumption | omega)))) | ((with_reducible apply AW.condF); exact rfl; (focus (rfl))) | refine AWt.both ?_ ?_))
      all_goals
        (refine AW.retD (l := [(6, _), (7, _)]) (by repeat (first | exact trivial | (refine And.intro ⟨rfl, by (exact .bool _)⟩ ?_))) ?_; (repeat (first | refine Then.r ?_ | refine InBlk.r ?_)))
        exact ⟨_, rfl, no hn⟩
  have hup : upB ⟨kw, kh, kg, ko, kt⟩ ⟨x, y, a, bb⟩ = false := decide_eq_false u
  by_cases v : kt = true ∧ kw = (bb : Int) ∧ kh = (a : Int)
  · obtain ⟨v0, v1, v2⟩ := v
    subst v0
    have htn : tnB ⟨kw, kh, kg, ko, true⟩ ⟨x, y, a, bb⟩ = true := decide_eq_true (p := kw = (bb : Int) ∧ kh = (a : Int)) ⟨v1, v2⟩
    by_cases u1 : kw = (a : Int)
    · exact absurd ⟨u1, by omega⟩ u
    by_cases hcc : cnt B kg x y a bb = a * bb
    · have hy : okB B ⟨kw, kh, kg, ko, true⟩ ⟨x, y, a, bb⟩ = true := by rw [hok, htn, Bool.or_true, decide_eq_true hcc]; rfl
      (repeat' (first | (with_reducible refine AWo.cons ?_) | ((with_reducible refine Step.id ?_); first | ((with_reducible apply Step.gdT); exact rfl; exact rfl; (focus (first | rfl | (simp only [decide_eq_true_eq, decide_eq_false_iff_not, Bool.not_eq_true', Bool.not_eq_false', Bool.not_true, Bool.not_false]; first | assumption | omega)))) | ((with_reducible apply Step.gdF); exact rfl; exact rfl; (focus ((simp only [decide_eq_true_eq, decide_eq_false_iff_not, Bool.not_eq_true', Bool.not_eq_false', Bool.not_true, Bool.not_false]; first | assumption | omega)))) | ((with_reducible apply Step.move); exact rfl; exact rfl) | ((with_reducible apply Step.assign); exact rfl; exact rfl) | ((with_reducible apply Step.load); exact rfl; (focus (decide +kernel)); exact rfl; (focus (exact Rd.new rfl rfl))) | ((with_reducible apply Step.loadL (n := 4)); exact rfl; (focus (decide +kernel)); (focus (decide +kernel)); exact rfl; (focus (exact RdL.new rfl rfl)); exact rfl; exact rfl) | ((with_reducible apply Step.field0); exact rfl; (focus (decide +kernel)); exact rfl) | ((with_reducible apply Step.field (k := 1)); exact rfl; (focus (decide +kernel)); exact rfl) | ((with_reducible apply Step.field (k := 2)); exact rfl; (focus (decide +kernel)); exact rfl) | ((with_reducible apply Step.field (k := 3)); exact rfl; (focus (decide +kernel)); exact rfl) | ((with_reducible apply Step.field (k := 4)); exact rfl; (focus (decide +kernel)); exact rfl) | ((with_reducible apply Step.mulE); exact rfl; exact rfl; (focus (assumption)); (focus (omega)); exact rfl) | ((with_reducible apply Step.eql); exact rfl; exact rfl; exact rfl) | ((with_reducible apply Step.neq); exact rfl; exact rfl; exact rfl) | ((with_reducible apply Step.not); exact rfl; exact rfl) | ((with_reducible apply Step.pickT); exact rfl; exact rfl; exact rfl; exact rfl; (focus (rfl))) | ((with_reducible apply Step.pickF); exact rfl; exact rfl; exact rfl; exact rfl; (focus (first | rfl | (simp only [decide_eq_true_eq, decide_eq_false_iff_not, Bool.not_eq_true', Bool.not_eq_false', Bool.not_true, Bool.not_false]; first | assumption | omega)))) | ((with_reducible apply Step.callR fit); exact rfl; exact Tryd.func56; exact rfl; exact rfl; exact (hC _)) | ((with_reducible apply Step.box 0); exact rfl; exact rfl; (focus (kernel_rfl)); exact rfl; (focus (first | (simp only [List.nil_append, List.cons_append, List.set_cons_zero, List.set_cons_succ, iv_set, bv_set, iv_rep, bv_rep]; done) | (simp only [List.nil_append, List.cons_append, List.set_cons_zero, List.set_cons_succ, iv_set, bv_set, iv_rep, bv_rep]; rfl) | rfl))) | ((with_reducible apply Step.box 1); exact rfl; exact rfl; (focus (kernel_rfl)); exact rfl; (focus (first | (simp only [List.nil_append, List.cons_append, List.set_cons_zero, List.set_cons_succ, iv_set, bv_set, iv_rep, bv_rep]; done) | (simp only [List.nil_append, List.cons_append, List.set_cons_zero, List.set_cons_succ, iv_set, bv_set, iv_rep, bv_rep]; rfl) | rfl)))) | (with_reducible refine AWo.nil ?_) | ((with_reducible apply AW.seq)) | ((with_reducible apply Then.n)) | ((with_reducible apply AW.regL)) | ((with_reducible apply AW.drawT fit (T := (.step 0 (.step 1 (.step 2 (.step 3 (.step 5 (.step 7 (.both (.step 4 (.step 6 (.step 8 (.step 9 (.step 10 .done))))) (.both (.step 6 (.both (.step 4 (.step 8 (.step 9 (.step 10 .done)))) (.step 8 (.step 9 (.step 4 (.step 10 .done)))))) (.step 8 (.both (.step 4 (.step 6 (.step 9 (.step 10 .done)))) (.step 6 (.step 9 (.step 4 (.step 10 .done)))))))))))))))); (focus (decide +kernel))) | ((with_reducible apply AWt.step); exact rfl) | ((with_reducible apply AWt.done)) | ((with_reducible apply AW.skip)) | ((with_reducible apply AW.condF); exact rfl; (focus ((simp only [decide_eq_true_eq, decide_eq_false_iff_not, Bool.not_eq_true', Bool.not_eq_false', Bool.not_true, Bool.not_false]; first | assumption | omega)))) | refine AWt.both ?_ ?_))
      all_goals
        (refine AW.retD (l := [(6, _), (7, _)]) (by repeat (first | exact trivial | (refine And.intro ⟨rfl, by (exact .bool _)⟩ ?_))) ?_; (repeat (first | refine Then.r ?_ | refine InBlk.r ?_)))
        exact ⟨_, rfl, yes _ hy (by unfold turnedB; rw [hup, htn]; simp [u1])⟩
    · have hn : okB B ⟨kw, kh, kg, ko, true⟩ ⟨x, y, a, bb⟩ = false := by rw [hok, decide_eq_false hcc, Bool.and_false]
      (repeat' (first | (with_reducible refine AWo.cons ?_) | ((with_reducible refine Step.id ?_); first | ((with_reducible apply Step.gdT); exact rfl; exact rfl; (focus (first | rfl | (simp only [decide_eq_true_eq, decide_eq_false_iff_not, Bool.not_eq_true', Bool.not_eq_false', Bool.not_true, Bool.not_false]; first | assumption | omega)))) | ((with_reducible apply Step.gdF); exact rfl; exact rfl; (focus ((simp only [decide_eq_true_eq, decide_eq_false_iff_not, Bool.not_eq_true', Bool.not_eq_false', Bool.not_true, Bool.not_false]; first | assumption | omega)))) | ((with_reducible apply Step.move); exact rfl; exact rfl) | ((with_reducible apply Step.assign); exact rfl; exact rfl) | ((with_reducible apply Step.load); exact rfl; (focus (decide +kernel)); exact rfl; (focus (exact Rd.new rfl rfl))) | ((with_reducible apply Step.loadL (n := 4)); exact rfl; (focus (decide +kernel)); (focus (decide +kernel)); exact rfl; (focus (exact RdL.new rfl rfl)); exact rfl; exact rfl) | ((with_reducible apply Step.field0); exact rfl; (focus (decide +kernel)); exact rfl) | ((with_reducible apply Step.field (k := 1)); exact rfl; (focus (decide +kernel)); exact rfl) | ((with_reducible apply Step.field (k := 2)); exact rfl; (focus (decide +kernel)); exact rfl) | ((with_reducible apply Step.field (k := 3)); exact rfl; (focus (decide +kernel)); exact rfl) | ((with_reducible apply Step.field (k := 4)); exact rfl; (focus (decide +kernel)); exact rfl) | ((with_reducible apply Step.mulE); exact rfl; exact rfl; (focus (assumption)); (focus (omega)); exact rfl) | ((with_reducible apply Step.eql); exact rfl; exact rfl; exact rfl) | ((with_reducible apply Step.neq); exact rfl; exact rfl; exact rfl) | ((with_reducible apply Step.not); exact rfl; exact rfl) | ((with_reducible apply Step.pickT); exact rfl; exact rfl; exact rfl; exact rfl; (focus (rfl))) | ((with_reducible apply Step.pickF); exact rfl; exact rfl; exact rfl; exact rfl; (focus (first | rfl | (simp only [decide_eq_true_eq, decide_eq_false_iff_not, Bool.not_eq_true', Bool.not_eq_false', Bool.not_true, Bool.not_false]; first | assumption | omega)))) | ((with_reducible apply Step.callR fit); exact rfl; exact Tryd.func56; exact rfl; exact rfl; exact (hC _)) | ((with_reducible apply Step.box 0); exact rfl; exact rfl; (focus (kernel_rfl)); exact rfl; (focus (first | (simp only [List.nil_append, List.cons_append, List.set_cons_zero, List.set_cons_succ, iv_set, bv_set, iv_rep, bv_rep]; done) | (simp only [List.nil_append, List.cons_append, List.set_cons_zero, List.set_cons_succ, iv_set, bv_set, iv_rep, bv_rep]; rfl) | rfl))) | ((with_reducible apply Step.box 1); exact rfl; exact rfl; (focus (kernel_rfl)); exact rfl; (focus (first | (simp only [List.nil_append, List.cons_append, List.set_cons_zero, List.set_cons_succ, iv_set, bv_set, iv_rep, bv_rep]; done) | (simp only [List.nil_append, List.cons_append, List.set_cons_zero, List.set_cons_succ, iv_set, bv_set, iv_rep, bv_rep]; rfl) | rfl)))) | (with_reducible refine AWo.nil ?_) | ((with_reducible apply AW.seq)) | ((with_reducible apply Then.n)) | ((with_reducible apply AW.regL)) | ((with_reducible apply AW.drawT fit (T := (.step 0 (.step 1 (.step 2 (.step 3 (.step 5 (.step 7 (.both (.step 4 (.step 6 (.step 8 (.step 9 (.step 10 .done))))) (.both (.step 6 (.both (.step 4 (.step 8 (.step 9 (.step 10 .done)))) (.step 8 (.step 9 (.step 4 (.step 10 .done)))))) (.step 8 (.both (.step 4 (.step 6 (.step 9 (.step 10 .done)))) (.step 6 (.step 9 (.step 4 (.step 10 .done)))))))))))))))); (focus (decide +kernel))) | ((with_reducible apply AWt.step); exact rfl) | ((with_reducible apply AWt.done)) | ((with_reducible apply AW.skip)) | ((with_reducible apply AW.condT); exact rfl; (focus ((simp only [decide_eq_true_eq, decide_eq_false_iff_not, Bool.not_eq_true', Bool.not_eq_false', Bool.not_true, Bool.not_false]; first | assumption | omega)))) | ((with_reducible apply AW.condF); exact rfl; (focus ((simp only [decide_eq_true_eq, decide_eq_false_iff_not, Bool.not_eq_true', Bool.not_eq_false', Bool.not_true, Bool.not_false]; first | assumption | omega)))) | refine AWt.both ?_ ?_))
      all_goals
        (refine AW.retD (l := [(6, _), (7, _)]) (by repeat (first | exact trivial | (refine And.intro ⟨rfl, by (exact .bool _)⟩ ?_))) ?_; (repeat (first | refine Then.r ?_ | refine InBlk.r ?_)))
        exact ⟨_, rfl, no hn⟩
  · have htn : tnB ⟨kw, kh, kg, ko, kt⟩ ⟨x, y, a, bb⟩ = false := by
      unfold tnB
      cases kt with
      | false => rfl
      | true => exact decide_eq_false fun h => v ⟨rfl, h⟩
    have hn : okB B ⟨kw, kh, kg, ko, kt⟩ ⟨x, y, a, bb⟩ = false := by rw [hok, hup, htn]; rfl
    cases kt with
    | false =>
      by_cases u1 : kw = (a : Int)
      · have u2 : ¬ kh = (bb : Int) := fun h => u ⟨u1, h⟩
        (repeat (first | (with_reducible refine AWo.cons ?_) | ((with_reducible refine Step.id ?_); first | ((with_reducible apply Step.gdT); exact rfl; exact rfl; (focus ((simp only [decide_eq_true_eq, decide_eq_false_iff_not, Bool.not_eq_true', Bool.not_eq_false', Bool.not_true, Bool.not_false]; first | assumption | omega)))) | ((with_reducible apply Step.gdF); exact rfl; exact rfl; (focus (rfl))) | ((with_reducible apply Step.move); exact rfl; exact rfl) | ((with_reducible apply Step.assign); exact rfl; exact rfl) | ((with_reducible apply Step.load); exact rfl; (focus (decide +kernel)); exact rfl; (focus (exact Rd.new rfl rfl))) | ((with_reducible apply Step.field0); exact rfl; (focus (decide +kernel)); exact rfl) | ((with_reducible apply Step.field (k := 1)); exact rfl; (focus (decide +kernel)); exact rfl) | ((with_reducible apply Step.field (k := 2)); exact rfl; (focus (decide +kernel)); exact rfl) | ((with_reducible apply Step.field (k := 3)); exact rfl; (focus (decide +kernel)); exact rfl) | ((with_reducible apply Step.field (k := 4)); exact rfl; (focus (decide +kernel)); exact rfl) | ((with_reducible apply Step.eql); exact rfl; exact rfl; exact rfl) | ((with_reducible apply Step.not); exact rfl; exact rfl) | ((with_reducible apply Step.pickT); exact rfl; exact rfl; exact rfl; exact rfl; (focus (first | rfl | (simp only [decide_eq_true_eq, decide_eq_false_iff_not, Bool.not_eq_true', Bool.not_eq_false', Bool.not_true, Bool.not_false]; first | assumption | omega)))) | ((with_reducible apply Step.box 0); exact rfl; exact rfl; (focus (kernel_rfl)); exact rfl; (focus (first | (simp only [List.nil_append, List.cons_append, List.set_cons_zero, List.set_cons_succ, iv_set, bv_set, iv_rep, bv_rep]; done) | (simp only [List.nil_append, List.cons_append, List.set_cons_zero, List.set_cons_succ, iv_set, bv_set, iv_rep, bv_rep]; rfl) | rfl))) | ((with_reducible apply Step.box 1); exact rfl; exact rfl; (focus (kernel_rfl)); exact rfl; (focus (first | (simp only [List.nil_append, List.cons_append, List.set_cons_zero, List.set_cons_succ, iv_set, bv_set, iv_rep, bv_rep]; done) | (simp only [List.nil_append, List.cons_append, List.set_cons_zero, List.set_cons_succ, iv_set, bv_set, iv_rep, bv_rep]; rfl) | rfl)))) | (with_reducible refine AWo.nil ?_) | ((with_reducible apply AW.seq)) | ((with_reducible apply Then.n)) | ((with_reducible apply AW.regL)) | ((with_reducible apply AW.condT); exact rfl; (focus (rfl)))))
        (refine AW.retD (l := [(6, _), (7, _)]) (by repeat (first | exact trivial | (refine And.intro ⟨rfl, by (exact .bool _)⟩ ?_))) ?_; (repeat (first | refine Then.r ?_ | refine InBlk.r ?_)))
        exact ⟨_, rfl, no hn⟩
      · (repeat (first | (with_reducible refine AWo.cons ?_) | ((with_reducible refine Step.id ?_); first | ((with_reducible apply Step.gdT); exact rfl; exact rfl; (focus (rfl))) | ((with_reducible apply Step.gdF); exact rfl; exact rfl; (focus (first | rfl | (simp only [decide_eq_true_eq, decide_eq_false_iff_not, Bool.not_eq_true', Bool.not_eq_false', Bool.not_true, Bool.not_false]; first | assumption | omega)))) | ((with_reducible apply Step.move); exact rfl; exact rfl) | ((with_reducible apply Step.assign); exact rfl; exact rfl) | ((with_reducible apply Step.load); exact rfl; (focus (decide +kernel)); exact rfl; (focus (exact Rd.new rfl rfl))) | ((with_reducible apply Step.field0); exact rfl; (focus (decide +kernel)); exact rfl) | ((with_reducible apply Step.field (k := 2)); exact rfl; (focus (decide +kernel)); exact rfl) | ((with_reducible apply Step.field (k := 4)); exact rfl; (focus (decide +kernel)); exact rfl) | ((with_reducible apply Step.eql); exact rfl; exact rfl; exact rfl) | ((with_reducible apply Step.not); exact rfl; exact rfl) | ((with_reducible apply Step.pickT); exact rfl; exact rfl; exact rfl; exact rfl; (focus (rfl))) | ((with_reducible apply Step.pickF); exact rfl; exact rfl; exact rfl; exact rfl; (focus ((simp only [decide_eq_true_eq, decide_eq_false_iff_not, Bool.not_eq_true', Bool.not_eq_false', Bool.not_true, Bool.not_false]; first | assumption | omega)))) | ((with_reducible apply Step.box 0); exact rfl; exact rfl; (focus (kernel_rfl)); exact rfl; (focus (first | (simp only [List.nil_append, List.cons_append, List.set_cons_zero, List.set_cons_succ, iv_set, bv_set, iv_rep, bv_rep]; done) | (simp only [List.nil_append, List.cons_append, List.set_cons_zero, List.set_cons_succ, iv_set, bv_set, iv_rep, bv_rep]; rfl) | rfl))) | ((with_reducible apply Step.box 1); exact rfl; exact rfl; (focus (kernel_rfl)); exact rfl; (focus (first | (simp only [List.nil_append, List.cons_append, List.set_cons_zero, List.set_cons_succ, iv_set, bv_set, iv_rep, bv_rep]; done) | (simp only [List.nil_append, List.cons_append, List.set_cons_zero, List.set_cons_succ, iv_set, bv_set, iv_rep, bv_rep]; rfl) | rfl)))) | (with_reducible refine AWo.nil ?_) | ((with_reducible apply AW.seq)) | ((with_reducible apply Then.n)) | ((with_reducible apply AW.regL)) | ((with_reducible apply AW.condT); exact rfl; (focus (rfl)))))
        (refine AW.retD (l := [(6, _), (7, _)]) (by repeat (first | exact trivial | (refine And.intro ⟨rfl, by (exact .bool _)⟩ ?_))) ?_; (repeat (first | refine Then.r ?_ | refine InBlk.r ?_)))
        exact ⟨_, rfl, no hn⟩
    | true =>
      by_cases u1 : kw = (a : Int)
      · have u2 : ¬ kh = (bb : Int) := fun h => u ⟨u1, h⟩
        by_cases v2 : kh = (a : Int)
        · have v1 : ¬ kw = (bb : Int) := fun h => v ⟨rfl, h, v2⟩
          (repeat (first | (with_reducible refine AWo.cons ?_) | ((with_reducible refine Step.id ?_); first | ((with_reducible apply Step.gdT); exact rfl; exact rfl; (focus (first | rfl | (simp only [decide_eq_true_eq, decide_eq_false_iff_not, Bool.not_eq_true', Bool.not_eq_false', Bool.not_true, Bool.not_false]; first | assumption | omega)))) | ((with_reducible apply Step.move); exact rfl; exact rfl) | ((with_reducible apply Step.assign); exact rfl; exact rfl) | ((with_reducible apply Step.load); exact rfl; (focus (decide +kernel)); exact rfl; (focus (exact Rd.new rfl rfl))) | ((with_reducible apply Step.field0); exact rfl; (focus (decide +kernel)); exact rfl) | ((with_reducible apply Step.field (k := 1)); exact rfl; (focus (decide +kernel)); exact rfl) | ((with_reducible apply Step.field (k := 2)); exact rfl; (focus (decide +kernel)); exact rfl) | ((with_reducible apply Step.field (k := 3)); exact rfl; (focus (decide +kernel)); exact rfl) | ((with_reducible apply Step.field (k := 4)); exact rfl; (focus (decide +kernel)); exact rfl) | ((with_reducible apply Step.eql); exact rfl; exact rfl; exact rfl) | ((with_reducible apply Step.neq); exact rfl; exact rfl; exact rfl) | ((with_reducible apply Step.not); exact rfl; exact rfl) | ((with_reducible apply Step.pickT); exact rfl; exact rfl; exact rfl; exact rfl; (focus ((simp only [decide_eq_true_eq, decide_eq_false_iff_not, Bool.not_eq_true', Bool.not_eq_false', Bool.not_true, Bool.not_false]; first | assumption | omega)))) | ((with_reducible apply Step.pickF); exact rfl; exact rfl; exact rfl; exact rfl; (focus (first | rfl | (simp only [decide_eq_true_eq, decide_eq_false_iff_not, Bool.not_eq_true', Bool.not_eq_false', Bool.not_true, Bool.not_false]; first | assumption | omega)))) | ((with_reducible apply Step.box 0); exact rfl; exact rfl; (focus (kernel_rfl)); exact rfl; (focus (first | (simp only [List.nil_append, List.cons_append, List.set_cons_zero, List.set_cons_succ, iv_set, bv_set, iv_rep, bv_rep]; done) | (simp only [List.nil_append, List.cons_append, List.set_cons_zero, List.set_cons_succ, iv_set, bv_set, iv_rep, bv_rep]; rfl) | rfl))) | ((with_reducible apply Step.box 1); exact rfl; exact rfl; (focus (kernel_rfl)); exact rfl; (focus (first | (simp only [List.nil_append, List.cons_append, List.set_cons_zero, List.set_cons_succ, iv_set, bv_set, iv_rep, bv_rep]; done) | (simp only [List.nil_append, List.cons_append, List.set_cons_zero, List.set_cons_succ, iv_set, bv_set, iv_rep, bv_rep]; rfl) | rfl)))) | (with_reducible refine AWo.nil ?_) | ((with_reducible apply AW.seq)) | ((with_reducible apply Then.n)) | ((with_reducible apply AW.regL)) | ((with_reducible apply AW.condT); exact rfl; (focus ((simp only [decide_eq_true_eq, decide_eq_false_iff_not, Bool.not_eq_true', Bool.not_eq_false', Bool.not_true, Bool.not_false]; first | assumption | omega))))))
          (refine AW.retD (l := [(6, _), (7, _)]) (by repeat (first | exact trivial | (refine And.intro ⟨rfl, by (exact .bool _)⟩ ?_))) ?_; (repeat (first | refine Then.r ?_ | refine InBlk.r ?_)))
          exact ⟨_, rfl, no hn⟩
        · (repeat (first | (with_reducible refine AWo.cons ?_) | ((with_reducible refine Step.id ?_); first | ((with_reducible apply Step.gdT); exact rfl; exact rfl; (focus (first | rfl | (simp only [decide_eq_true_eq, decide_eq_false_iff_not, Bool.not_eq_true', Bool.not_eq_false', Bool.not_true, Bool.not_false]; first | assumption | omega)))) | ((with_reducible apply Step.gdF); exact rfl; exact rfl; (focus ((simp only [decide_eq_true_eq, decide_eq_false_iff_not, Bool.not_eq_true', Bool.not_eq_false', Bool.not_true, Bool.not_false]; first | assumption | omega)))) | ((with_reducible apply Step.move); exact rfl; exact rfl) | ((with_reducible apply Step.assign); exact rfl; exact rfl) | ((with_reducible apply Step.load); exact rfl; (focus (decide +kernel)); exact rfl; (focus (exact Rd.new rfl rfl))) | ((with_reducible apply Step.field0); exact rfl; (focus (decide +kernel)); exact rfl) | ((with_reducible apply Step.field (k := 1)); exact rfl; (focus (decide +kernel)); exact rfl) | ((with_reducible apply Step.field (k := 2)); exact rfl; (focus (decide +kernel)); exact rfl) | ((with_reducible apply Step.field (k := 3)); exact rfl; (focus (decide +kernel)); exact rfl) | ((with_reducible apply Step.field (k := 4)); exact rfl; (focus (decide +kernel)); exact rfl) | ((with_reducible apply Step.eql); exact rfl; exact rfl; exact rfl) | ((with_reducible apply Step.neq); exact rfl; exact rfl; exact rfl) | ((with_reducible apply Step.not); exact rfl; exact rfl) | ((with_reducible apply Step.pickT); exact rfl; exact rfl; exact rfl; exact rfl; (focus ((simp only [decide_eq_true_eq, decide_eq_false_iff_not, Bool.not_eq_true', Bool.not_eq_false', Bool.not_true, Bool.not_false]; first | assumption | omega)))) | ((with_reducible apply Step.pickF); exact rfl; exact rfl; exact rfl; exact rfl; (focus (rfl))) | ((with_reducible apply Step.box 0); exact rfl; exact rfl; (focus (kernel_rfl)); exact rfl; (focus (first | (simp only [List.nil_append, List.cons_append, List.set_cons_zero, List.set_cons_succ, iv_set, bv_set, iv_rep, bv_rep]; done) | (simp only [List.nil_append, List.cons_append, List.set_cons_zero, List.set_cons_succ, iv_set, bv_set, iv_rep, bv_rep]; rfl) | rfl))) | ((with_reducible apply Step.box 1); exact rfl; exact rfl; (focus (kernel_rfl)); exact rfl; (focus (first | (simp only [List.nil_append, List.cons_append, List.set_cons_zero, List.set_cons_succ, iv_set, bv_set, iv_rep, bv_rep]; done) | (simp only [List.nil_append, List.cons_append, List.set_cons_zero, List.set_cons_succ, iv_set, bv_set, iv_rep, bv_rep]; rfl) | rfl)))) | (with_reducible refine AWo.nil ?_) | ((with_reducible apply AW.seq)) | ((with_reducible apply Then.n)) | ((with_reducible apply AW.regL)) | ((with_reducible apply AW.condT); exact rfl; (focus (rfl)))))
          (refine AW.retD (l := [(6, _), (7, _)]) (by repeat (first | exact trivial | (refine And.intro ⟨rfl, by (exact .bool _)⟩ ?_))) ?_; (repeat (first | refine Then.r ?_ | refine InBlk.r ?_)))
          exact ⟨_, rfl, no hn⟩
      · by_cases v2 : kh = (a : Int)
        · have v1 : ¬ kw = (bb : Int) := fun h => v ⟨rfl, h, v2⟩
          (repeat (first | (with_reducible refine AWo.cons ?_) | ((with_reducible refine Step.id ?_); first | ((with_reducible apply Step.gdT); exact rfl; exact rfl; (focus (first | rfl | (simp only [decide_eq_true_eq, decide_eq_false_iff_not, Bool.not_eq_true', Bool.not_eq_false', Bool.not_true, Bool.not_false]; first | assumption | omega)))) | ((with_reducible apply Step.gdF); exact rfl; exact rfl; (focus ((simp only [decide_eq_true_eq, decide_eq_false_iff_not, Bool.not_eq_true', Bool.not_eq_false', Bool.not_true, Bool.not_false]; first | assumption | omega)))) | ((with_reducible apply Step.move); exact rfl; exact rfl) | ((with_reducible apply Step.assign); exact rfl; exact rfl) | ((with_reducible apply Step.load); exact rfl; (focus (decide +kernel)); exact rfl; (focus (exact Rd.new rfl rfl))) | ((with_reducible apply Step.field0); exact rfl; (focus (decide +kernel)); exact rfl) | ((with_reducible apply Step.field (k := 1)); exact rfl; (focus (decide +kernel)); exact rfl) | ((with_reducible apply Step.field (k := 2)); exact rfl; (focus (decide +kernel)); exact rfl) | ((with_reducible apply Step.field (k := 3)); exact rfl; (focus (decide +kernel)); exact rfl) | ((with_reducible apply Step.field (k := 4)); exact rfl; (focus (decide +kernel)); exact rfl) | ((with_reducible apply Step.eql); exact rfl; exact rfl; exact rfl) | ((with_reducible apply Step.neq); exact rfl; exact rfl; exact rfl) | ((with_reducible apply Step.not); exact rfl; exact rfl) | ((with_reducible apply Step.pickT); exact rfl; exact rfl; exact rfl; exact rfl; (focus (rfl))) | ((with_reducible apply Step.pickF); exact rfl; exact rfl; exact rfl; exact rfl; (focus (first | rfl | (simp only [decide_eq_true_eq, decide_eq_false_iff_not, Bool.not_eq_true', Bool.not_eq_false', Bool.not_true, Bool.not_false]; first | assumption | omega)))) | ((with_reducible apply Step.box 0); exact rfl; exact rfl; (focus (kernel_rfl)); exact rfl; (focus (first | (simp only [List.nil_append, List.cons_append, List.set_cons_zero, List.set_cons_succ, iv_set, bv_set, iv_rep, bv_rep]; done) | (simp only [List.nil_append, List.cons_append, List.set_cons_zero, List.set_cons_succ, iv_set, bv_set, iv_rep, bv_rep]; rfl) | rfl))) | ((with_reducible apply Step.box 1); exact rfl; exact rfl; (focus (kernel_rfl)); exact rfl; (focus (first | (simp only [List.nil_append, List.cons_append, List.set_cons_zero, List.set_cons_succ, iv_set, bv_set, iv_rep, bv_rep]; done) | (simp only [List.nil_append, List.cons_append, List.set_cons_zero, List.set_cons_succ, iv_set, bv_set, iv_rep, bv_rep]; rfl) | rfl)))) | (with_reducible refine AWo.nil ?_) | ((with_reducible apply AW.seq)) | ((with_reducible apply Then.n)) | ((with_reducible apply AW.regL)) | ((with_reducible apply AW.condT); exact rfl; (focus ((simp only [decide_eq_true_eq, decide_eq_false_iff_not, Bool.not_eq_true', Bool.not_eq_false', Bool.not_true, Bool.not_false]; first | assumption | omega))))))
          (refine AW.retD (l := [(6, _), (7, _)]) (by repeat (first | exact trivial | (refine And.intro ⟨rfl, by (exact .bool _)⟩ ?_))) ?_; (repeat (first | refine Then.r ?_ | refine InBlk.r ?_)))
          exact ⟨_, rfl, no hn⟩
        · (repeat (first | (with_reducible refine AWo.cons ?_) | ((with_reducible refine Step.id ?_); first | ((with_reducible apply Step.gdT); exact rfl; exact rfl; (focus (rfl))) | ((with_reducible apply Step.gdF); exact rfl; exact rfl; (focus ((simp only [decide_eq_true_eq, decide_eq_false_iff_not, Bool.not_eq_true', Bool.not_eq_false', Bool.not_true, Bool.not_false]; first | assumption | omega)))) | ((with_reducible apply Step.move); exact rfl; exact rfl) | ((with_reducible apply Step.assign); exact rfl; exact rfl) | ((with_reducible apply Step.load); exact rfl; (focus (decide +kernel)); exact rfl; (focus (exact Rd.new rfl rfl))) | ((with_reducible apply Step.field0); exact rfl; (focus (decide +kernel)); exact rfl) | ((with_reducible apply Step.field (k := 1)); exact rfl; (focus (decide +kernel)); exact rfl) | ((with_reducible apply Step.field (k := 2)); exact rfl; (focus (decide +kernel)); exact rfl) | ((with_reducible apply Step.field (k := 4)); exact rfl; (focus (decide +kernel)); exact rfl) | ((with_reducible apply Step.eql); exact rfl; exact rfl; exact rfl) | ((with_reducible apply Step.neq); exact rfl; exact rfl; exact rfl) | ((with_reducible apply Step.not); exact rfl; exact rfl) | ((with_reducible apply Step.pickT); exact rfl; exact rfl; exact rfl; exact rfl; (focus (first | rfl | (simp only [decide_eq_true_eq, decide_eq_false_iff_not, Bool.not_eq_true', Bool.not_eq_false', Bool.not_true, Bool.not_false]; first | assumption | omega)))) | ((with_reducible apply Step.pickF); exact rfl; exact rfl; exact rfl; exact rfl; (focus (first | rfl | (simp only [decide_eq_true_eq, decide_eq_false_iff_not, Bool.not_eq_true', Bool.not_eq_false', Bool.not_true, Bool.not_false]; first | assumption | omega)))) | ((with_reducible apply Step.box 0); exact rfl; exact rfl; (focus (kernel_rfl)); exact rfl; (focus (first | (simp only [List.nil_append, List.cons_append, List.set_cons_zero, List.set_cons_succ, iv_set, bv_set, iv_rep, bv_rep]; done) | (simp only [List.nil_append, List.cons_append, List.set_cons_zero, List.set_cons_succ, iv_set, bv_set, iv_rep, bv_rep]; rfl) | rfl))) | ((with_reducible apply Step.box 1); exact rfl; exact rfl; (focus (kernel_rfl)); exact rfl; (focus (first | (simp only [List.nil_append, List.cons_append, List.set_cons_zero, List.set_cons_succ, iv_set, bv_set, iv_rep, bv_rep]; done) | (simp only [List.nil_append, List.cons_append, List.set_cons_zero, List.set_cons_succ, iv_set, bv_set, iv_rep, bv_rep]; rfl) | rfl)))) | (with_reducible refine AWo.nil ?_) | ((with_reducible apply AW.seq)) | ((with_reducible apply Then.n)) | ((with_reducible apply AW.regL)) | ((with_reducible apply AW.condT); exact rfl; (focus (rfl)))))
          (refine AW.retD (l := [(6, _), (7, _)]) (by repeat (first | exact trivial | (refine And.intro ⟨rfl, by (exact .bool _)⟩ ?_))) ?_; (repeat (first | refine Then.r ?_ | refine InBlk.r ?_)))
          exact ⟨_, rfl, no hn⟩
def atN (B : Brd) (K : List Kd) (r : R4) : Nat → Int
  | 0 => -1
  | i + 1 => if okB B (K.getD i default) r = true ∧ leafN B K r i < (K.getD i default).worth then (i : Int) else atN B K r i
set_option maxHeartbeats 4000000 in
set_option maxRecDepth 100000 in
theorem piece_ok {m : AM} {sv kv : Value} {B : Brd} {K : List Kd} (hs : Strs m sv B) (hk : Kds m kv K) (hg : goodB B K = true) {r : R4} (hr : r.ok (bw B) (bh B)) :
    ACall Tryd.prog 78 #[sv, kv, r.rc.v] m (Ret (.tuple #[.int .i64 (leafM B K r), .int .i64 (atN B K r K.length)]) m) := by
  have hgb : boardB B = true := by simp only [goodB, Bool.and_eq_true] at hg; exact hg.1
  have hkl : K.length ≤ 12 := by simp only [goodB, kindsB, Bool.and_eq_true, decide_eq_true_eq] at hg; exact hg.2.1
  have hf := fun T k => RFits_ok (hs.old T) hgb k hr
  obtain ⟨A1, O1, sl1, la1, rd1⟩ := hs
  obtain ⟨q1, c1, rfl⟩ := sl1.shape
  have w1 : Low m.length (.slice q1 B.length c1) := Low.of_sl sl1 la1
  obtain ⟨A, O, sl, la, rd⟩ := hk
  obtain ⟨q', c', rfl⟩ := sl.shape
  have w2 : Low m.length (.slice q' K.length c') := Low.of_sl sl la
  obtain ⟨x, y, a, b⟩ := r
  have r0 : ∀ T : AM, RdL (m ++ (some { cells := [.int .i64 (x : Nat), .int .i64 (y : Nat), .int .i64 (a : Nat), .int .i64 (b : Nat)] } :: T)) (m.length + 0) 0 [.int .i64 (x : Nat), .int .i64 (y : Nat), .int .i64 (a : Nat), .int .i64 (b : Nat)] := fun T => RdL.new rfl rfl
  change ACall Tryd.prog 78 #[_, _, .agg #[.int .i64 (x : Nat), .int .i64 (y : Nat), .int .i64 (a : Nat), .int .i64 (b : Nat)]] m _
  change ∀ (T : AM) (k : Kd), ACall Tryd.prog 55 #[_, .agg k.cells.toArray, .agg ([.int .i64 (x : Nat), .int .i64 (y : Nat), .int .i64 (a : Nat), .int .i64 (b : Nat)] : List Value).toArray] (m ++ T) _ at hf
  generalize (⟨x, y, a, b⟩ : R4) = r at hf ⊢
  refine ACall.start Tryd.func78 rfl rfl ?_
  (repeat (first | (with_reducible refine AWo.cons ?_) | ((with_reducible refine Step.id ?_); first | ((with_reducible apply Step.move); exact rfl; exact rfl) | ((with_reducible apply Step.assign); exact rfl; exact rfl) | ((with_reducible apply Step.len); exact rfl; (focus (assumption)); (focus (decide +kernel)); exact rfl) | ((with_reducible apply Step.box 0); exact rfl; exact rfl; (focus (kernel_rfl)); exact rfl; (focus (first | (simp only [List.nil_append, List.cons_append, List.set_cons_zero, List.set_cons_succ, iv_set, bv_set, iv_rep, bv_rep]; done) | (simp only [List.nil_append, List.cons_append, List.set_cons_zero, List.set_cons_succ, iv_set, bv_set, iv_rep, bv_rep]; rfl) | rfl)))) | (with_reducible refine AWo.nil ?_) | ((with_reducible apply AW.seq)) | ((with_reducible apply Then.n)) | ((with_reducible apply AW.regL)) | ((with_reducible apply AW.block))))
  refine AW.loopT (fun n t L => ∃ i : Nat, n = K.length - i ∧ i ≤ K.length ∧ L = [some { cells := [.int .i64 (x : Nat), .int .i64 (y : Nat), .int .i64 (a : Nat), .int .i64 (b : Nat)] }] ∧
    t = [(0, .slice q1 B.length c1), (5, .pointer (some ⟨m.length + 0, 0, none⟩)), (8, .int .i64 (leafN B K r i)), (9, .int .i64 (atN B K r i)), (14, .slice q' K.length c'), (15, .int .i64 (K.length : Nat)), (16, .int .i64 (i : Nat))])
    ⟨_, _, _, (Or.inl ⟨rfl, (by repeat (first | exact trivial | (refine And.intro rfl ?_)))⟩), 0, rfl, Nat.zero_le _, rfl, rfl⟩ ?_
  rintro n t L ⟨i, rfl, hi, rfl, rfl⟩
  rcases Nat.lt_or_ge i K.length with hlt | hge
  · have rk := rd i hlt
    have hfi := fun T => hf T (K.getD i default)
    have hst : leafN B K r (i + 1) = if okB B (K.getD i default) r = true ∧ leafN B K r i < (K.getD i default).worth then (K.getD i default).worth else leafN B K r i := by rw [← fitsM_some]; rfl
    have hat : atN B K r (i + 1) = if okB B (K.getD i default) r = true ∧ leafN B K r i < (K.getD i default).worth then (i : Int) else atN B K r i := rfl
    generalize K.getD i default = kd at *
    obtain ⟨kw, kh, kg, ko, kt⟩ := kd
    simp only [Kd.cells] at rk hfi
    simp only at hst hat
    have r1 : ∀ b0 (T : AM), RdL (m ++ (b0 :: some { cells := [.int .i64 kw, .int .i64 kh, .int .i64 kg, .int .i64 ko, .bool kt] } :: T)) (m.length + 1) 0 [.int .i64 kw, .int .i64 kh, .int .i64 kg, .int .i64 ko, .bool kt] := fun b0 T => RdL.new rfl rfl
    cases h2 : okB B ⟨kw, kh, kg, ko, kt⟩ r with
    | true =>
      rw [h2] at hfi
      by_cases h1 : leafN B K r i < ko
      · rw [h2, if_pos ⟨rfl, h1⟩] at hst hat
        (repeat (first | (with_reducible refine AWo.cons ?_) | ((with_reducible refine Step.id ?_); first | ((with_reducible apply Step.gdT); exact rfl; exact rfl; (focus (rfl))) | ((with_reducible apply Step.move); exact rfl; exact rfl) | ((with_reducible apply Step.assign); exact rfl; exact rfl) | ((with_reducible apply Step.load); exact rfl; (focus (decide +kernel)); exact rfl; (focus (exact Rd.new rfl rfl))) | ((with_reducible apply Step.loadL (n := 4)); exact rfl; (focus (decide +kernel)); (focus (decide +kernel)); exact rfl; (focus (exact RdL.new rfl rfl)); exact rfl; exact rfl) | ((with_reducible apply Step.loadL (n := 5)); exact rfl; (focus (decide +kernel)); (focus (decide +kernel)); exact rfl; (focus (first | exact RdL.new rfl rfl | exact RdL.old _ (by assumption))); exact rfl; exact rfl) | ((with_reducible apply Step.ix (s := 5)); exact rfl; (focus (assumption)); exact rfl; (focus (decide +kernel)); exact rfl; (focus (omega))) | ((with_reducible apply Step.field (k := 3)); exact rfl; (focus (decide +kernel)); exact rfl) | ((with_reducible apply Step.add); exact rfl; exact rfl; (focus (omega)); exact rfl) | ((with_reducible apply Step.lss); exact rfl; exact rfl; exact rfl) | ((with_reducible apply Step.gtr); exact rfl; exact rfl; exact rfl) | ((with_reducible apply Step.extract); exact rfl; exact rfl; exact rfl) | ((with_reducible apply Step.pickT); exact rfl; exact rfl; exact rfl; exact rfl; (focus (rfl))) | ((with_reducible apply Step.callR fit); exact rfl; exact Tryd.func55; exact rfl; exact rfl; exact (hfi _)) | ((with_reducible apply Step.alloc 1); exact rfl; exact ze33; exact rfl; (focus (first | (simp only [List.nil_append, List.cons_append, List.set_cons_zero, List.set_cons_succ, iv_set, bv_set, iv_rep, bv_rep]; done) | (simp only [List.nil_append, List.cons_append, List.set_cons_zero, List.set_cons_succ, iv_set, bv_set, iv_rep, bv_rep]; rfl) | rfl))) | ((with_reducible apply Step.storeA (k := 1) (n := 5)); exact rfl; exact rfl; exact rfl; exact rfl; (focus (decide +kernel)); exact rfl; (focus (kernel_rfl)); exact rfl; (focus (first | (simp only [List.nil_append, List.cons_append, List.set_cons_zero, List.set_cons_succ, iv_set, bv_set, iv_rep, bv_rep]; done) | (simp only [List.nil_append, List.cons_append, List.set_cons_zero, List.set_cons_succ, iv_set, bv_set, iv_rep, bv_rep]; rfl) | rfl)))) | (with_reducible refine AWo.nil ?_) | ((with_reducible apply AW.seq)) | ((with_reducible apply Then.n)) | ((with_reducible apply AW.regL)) | ((with_reducible apply AW.block)) | ((with_reducible apply InBlk.n)) | ((with_reducible apply AW.skip)) | ((with_reducible apply AW.condT); exact rfl; (focus ((simp only [decide_eq_true_eq, decide_eq_false_iff_not, Bool.not_eq_true', Bool.not_eq_false', Bool.not_true, Bool.not_false]; first | assumption | omega))))))
        exact ⟨_, [(0, .slice q1 B.length c1), (5, .pointer (some ⟨m.length + 0, 0, none⟩)), (8, .int .i64 ko), (9, .int .i64 (i : Nat)), (14, .slice q' K.length c'), (15, .int .i64 (K.length : Nat)), (16, .int .i64 (i + 1 : Nat))], [some { cells := [.int .i64 (x : Nat), .int .i64 (y : Nat), .int .i64 (a : Nat), .int .i64 (b : Nat)] }], by omega, (Back.trim rfl rfl (by repeat (first | exact CellsOk.nil | refine CellsOk.cons (by (intro v hv; simp at hv; first | (subst hv; rfl) | (rcases hv with rfl | rfl <;> rfl) | (rcases hv with rfl | rfl | rfl <;> rfl) | (rcases hv with rfl | rfl | rfl | rfl <;> rfl))) ?_)) (by repeat (first | exact trivial | (refine And.intro ⟨rfl, by (first | exact Low.rid (by assumption) (by simp) | exact .int _ _ | exact .ptr _ _ (by first | (simp; done) | omega | (simp; omega)))⟩ ?_)))), i + 1, rfl, by omega, rfl, by rw [hst, hat]⟩
      · rw [h2, if_neg (by omega)] at hst hat
        (repeat (first | (with_reducible refine AWo.cons ?_) | ((with_reducible refine Step.id ?_); first | ((with_reducible apply Step.gdT); exact rfl; exact rfl; (focus (rfl))) | ((with_reducible apply Step.move); exact rfl; exact rfl) | ((with_reducible apply Step.assign); exact rfl; exact rfl) | ((with_reducible apply Step.load); exact rfl; (focus (decide +kernel)); exact rfl; (focus (exact Rd.new rfl rfl))) | ((with_reducible apply Step.loadL (n := 4)); exact rfl; (focus (decide +kernel)); (focus (decide +kernel)); exact rfl; (focus (exact RdL.new rfl rfl)); exact rfl; exact rfl) | ((with_reducible apply Step.loadL (n := 5)); exact rfl; (focus (decide +kernel)); (focus (decide +kernel)); exact rfl; (focus (first | exact RdL.new rfl rfl | exact RdL.old _ (by assumption))); exact rfl; exact rfl) | ((with_reducible apply Step.ix (s := 5)); exact rfl; (focus (assumption)); exact rfl; (focus (decide +kernel)); exact rfl; (focus (omega))) | ((with_reducible apply Step.field (k := 3)); exact rfl; (focus (decide +kernel)); exact rfl) | ((with_reducible apply Step.add); exact rfl; exact rfl; (focus (omega)); exact rfl) | ((with_reducible apply Step.lss); exact rfl; exact rfl; exact rfl) | ((with_reducible apply Step.gtr); exact rfl; exact rfl; exact rfl) | ((with_reducible apply Step.extract); exact rfl; exact rfl; exact rfl) | ((with_reducible apply Step.pickT); exact rfl; exact rfl; exact rfl; exact rfl; (focus (rfl))) | ((with_reducible apply Step.callR fit); exact rfl; exact Tryd.func55; exact rfl; exact rfl; exact (hfi _)) | ((with_reducible apply Step.alloc 1); exact rfl; exact ze33; exact rfl; (focus (first | (simp only [List.nil_append, List.cons_append, List.set_cons_zero, List.set_cons_succ, iv_set, bv_set, iv_rep, bv_rep]; done) | (simp only [List.nil_append, List.cons_append, List.set_cons_zero, List.set_cons_succ, iv_set, bv_set, iv_rep, bv_rep]; rfl) | rfl))) | ((with_reducible apply Step.storeA (k := 1) (n := 5)); exact rfl; exact rfl; exact rfl; exact rfl; (focus (decide +kernel)); exact rfl; (focus (kernel_rfl)); exact rfl; (focus (first | (simp only [List.nil_append, List.cons_append, List.set_cons_zero, List.set_cons_succ, iv_set, bv_set, iv_rep, bv_rep]; done) | (simp only [List.nil_append, List.cons_append, List.set_cons_zero, List.set_cons_succ, iv_set, bv_set, iv_rep, bv_rep]; rfl) | rfl)))) | (with_reducible refine AWo.nil ?_) | ((with_reducible apply AW.seq)) | ((with_reducible apply Then.n)) | ((with_reducible apply AW.regL)) | ((with_reducible apply AW.block)) | ((with_reducible apply InBlk.n)) | ((with_reducible apply AW.skip)) | ((with_reducible apply AW.condT); exact rfl; (focus ((simp only [decide_eq_true_eq, decide_eq_false_iff_not, Bool.not_eq_true', Bool.not_eq_false', Bool.not_true, Bool.not_false]; first | assumption | omega)))) | ((with_reducible apply AW.condF); exact rfl; (focus ((simp only [decide_eq_true_eq, decide_eq_false_iff_not, Bool.not_eq_true', Bool.not_eq_false', Bool.not_true, Bool.not_false]; first | assumption | omega))))))
        exact ⟨_, [(0, .slice q1 B.length c1), (5, .pointer (some ⟨m.length + 0, 0, none⟩)), (8, .int .i64 (leafN B K r i)), (9, .int .i64 (atN B K r i)), (14, .slice q' K.length c'), (15, .int .i64 (K.length : Nat)), (16, .int .i64 (i + 1 : Nat))], [some { cells := [.int .i64 (x : Nat), .int .i64 (y : Nat), .int .i64 (a : Nat), .int .i64 (b : Nat)] }], by omega, (Back.trim rfl rfl (by repeat (first | exact CellsOk.nil | refine CellsOk.cons (by (intro v hv; simp at hv; first | (subst hv; rfl) | (rcases hv with rfl | rfl <;> rfl) | (rcases hv with rfl | rfl | rfl <;> rfl) | (rcases hv with rfl | rfl | rfl | rfl <;> rfl))) ?_)) (by repeat (first | exact trivial | (refine And.intro ⟨rfl, by (first | exact Low.rid (by assumption) (by simp) | exact .int _ _ | exact .ptr _ _ (by first | (simp; done) | omega | (simp; omega)))⟩ ?_)))), i + 1, rfl, by omega, rfl, by rw [hst, hat]⟩
    | false =>
      rw [h2] at hfi
      rw [h2, if_neg (by simp)] at hst hat
      (repeat (first | (with_reducible refine AWo.cons ?_) | ((with_reducible refine Step.id ?_); first | ((with_reducible apply Step.gdF); exact rfl; exact rfl; (focus (rfl))) | ((with_reducible apply Step.move); exact rfl; exact rfl) | ((with_reducible apply Step.assign); exact rfl; exact rfl) | ((with_reducible apply Step.loadL (n := 4)); exact rfl; (focus (decide +kernel)); (focus (decide +kernel)); exact rfl; (focus (exact RdL.new rfl rfl)); exact rfl; exact rfl) | ((with_reducible apply Step.loadL (n := 5)); exact rfl; (focus (decide +kernel)); (focus (decide +kernel)); exact rfl; (focus (first | exact RdL.new rfl rfl | exact RdL.old _ (by assumption))); exact rfl; exact rfl) | ((with_reducible apply Step.ix (s := 5)); exact rfl; (focus (assumption)); exact rfl; (focus (decide +kernel)); exact rfl; (focus (omega))) | ((with_reducible apply Step.add); exact rfl; exact rfl; (focus (omega)); exact rfl) | ((with_reducible apply Step.lss); exact rfl; exact rfl; exact rfl) | ((with_reducible apply Step.extract); exact rfl; exact rfl; exact rfl) | ((with_reducible apply Step.pickF); exact rfl; exact rfl; exact rfl; exact rfl; (focus (rfl))) | ((with_reducible apply Step.callR fit); exact rfl; exact Tryd.func55; exact rfl; exact rfl; exact (hfi _)) | ((with_reducible apply Step.alloc 1); exact rfl; exact ze33; exact rfl; (focus (first | (simp only [List.nil_append, List.cons_append, List.set_cons_zero, List.set_cons_succ, iv_set, bv_set, iv_rep, bv_rep]; done) | (simp only [List.nil_append, List.cons_append, List.set_cons_zero, List.set_cons_succ, iv_set, bv_set, iv_rep, bv_rep]; rfl) | rfl))) | ((with_reducible apply Step.storeA (k := 1) (n := 5)); exact rfl; exact rfl; exact rfl; exact rfl; (focus (decide +kernel)); exact rfl; (focus (kernel_rfl)); exact rfl; (focus (first | (simp only [List.nil_append, List.cons_append, List.set_cons_zero, List.set_cons_succ, iv_set, bv_set, iv_rep, bv_rep]; done) | (simp only [List.nil_append, List.cons_append, List.set_cons_zero, List.set_cons_succ, iv_set, bv_set, iv_rep, bv_rep]; rfl) | rfl)))) | (with_reducible refine AWo.nil ?_) | ((with_reducible apply AW.seq)) | ((with_reducible apply Then.n)) | ((with_reducible apply AW.regL)) | ((with_reducible apply AW.block)) | ((with_reducible apply InBlk.n)) | ((with_reducible apply AW.skip)) | ((with_reducible apply AW.condT); exact rfl; (focus ((simp only [decide_eq_true_eq, decide_eq_false_iff_not, Bool.not_eq_true', Bool.not_eq_false', Bool.not_true, Bool.not_false]; first | assumption | omega)))) | ((with_reducible apply AW.condF); exact rfl; (focus (rfl)))))
      exact ⟨_, [(0, .slice q1 B.length c1), (5, .pointer (some ⟨m.length + 0, 0, none⟩)), (8, .int .i64 (leafN B K r i)), (9, .int .i64 (atN B K r i)), (14, .slice q' K.length c'), (15, .int .i64 (K.length : Nat)), (16, .int .i64 (i + 1 : Nat))], [some { cells := [.int .i64 (x : Nat), .int .i64 (y : Nat), .int .i64 (a : Nat), .int .i64 (b : Nat)] }], by omega, (Back.trim rfl rfl (by repeat (first | exact CellsOk.nil | refine CellsOk.cons (by (intro v hv; simp at hv; first | (subst hv; rfl) | (rcases hv with rfl | rfl <;> rfl) | (rcases hv with rfl | rfl | rfl <;> rfl) | (rcases hv with rfl | rfl | rfl | rfl <;> rfl))) ?_)) (by repeat (first | exact trivial | (refine And.intro ⟨rfl, by (first | exact Low.rid (by assumption) (by simp) | exact .int _ _ | exact .ptr _ _ (by first | (simp; done) | omega | (simp; omega)))⟩ ?_)))), i + 1, rfl, by omega, rfl, by rw [hst, hat]⟩
  · obtain rfl : i = K.length := by omega
    (repeat (first | (with_reducible refine AWo.cons ?_) | ((with_reducible refine Step.id ?_); first | ((with_reducible apply Step.move); exact rfl; exact rfl) | ((with_reducible apply Step.assign); exact rfl; exact rfl) | ((with_reducible apply Step.lss); exact rfl; exact rfl; exact rfl)) | (with_reducible refine AWo.nil ?_) | ((with_reducible apply AW.seq)) | ((with_reducible apply Then.n)) | ((with_reducible apply AW.regL)) | ((with_reducible apply AW.exit)) | ((with_reducible apply InBlk.hit)) | ((with_reducible apply Then.e)) | ((with_reducible apply AW.condF); exact rfl; (focus ((simp only [decide_eq_true_eq, decide_eq_false_iff_not, Bool.not_eq_true', Bool.not_eq_false', Bool.not_true, Bool.not_false]; first | assumption | omega))))))
    (refine AW.retD (l := [(6, _), (7, _)]) (by repeat (first | exact trivial | (refine And.intro ⟨rfl, by (exact .int _ _)⟩ ?_))) ?_; (repeat (first | refine Then.r ?_ | refine InBlk.r ?_)))
    exact ⟨_, rfl, rfl, rfl⟩
end Go.Proofs.YtibhgdglbillaaaDoor.Abs
namespace Go.Proofs.YtibhgdglbillaaaDoor.Abs
set_option linter.unusedSimpArgs false
set_option linter.unusedVariables false
open Go.RowKit
open Go.Proofs.YtibhgdglbillaaaDoor.Sim
open Go.Proofs
def kvc (l : List Kd) : List Value := l.flatMap Kd.cells
theorem kvc_len (l : List Kd) : (kvc l).length = l.length * 5 := by
  induction l with
  | nil => rfl
  | cons k l ih =>
    have : kvc (k :: l) = k.cells ++ kvc l := rfl
    rw [this, List.length_append, ih]
    simp [Kd.cells]
    omega
theorem kvc_snoc (l : List Kd) (k : Kd) : kvc (l ++ [k]) = kvc l ++ k.cells := by simp [kvc]
theorem kvc_get : ∀ (l : List Kd) (i : Nat), i < l.length → ∀ (j : Nat) (v : Value), (l.getD i default).cells[j]? = some v → (kvc l)[i * 5 + j]? = some v
  | [], i, hi, _, _, _ => by simp at hi
  | k :: l, 0, _, j, v, hj => by
    have : kvc (k :: l) = k.cells ++ kvc l := rfl
    change k.cells[j]? = some v at hj
    rw [this, Nat.zero_mul, Nat.zero_add, List.getElem?_append_left (List.getElem?_eq_some_iff.1 hj).1]
    exact hj
  | k :: l, i + 1, hi, j, v, hj => by
    have e : kvc (k :: l) = k.cells ++ kvc l := rfl
    have hl : k.cells.length = 5 := rfl
    rw [e, List.getElem?_append_right (by omega), hl, show (i + 1) * 5 + j - 5 = i * 5 + j by omega]
    exact kvc_get l i (by simpa using hi) j v hj
theorem g0_kvc (l : List Kd) : ∀ v ∈ kvc l, g0 v = true := fun v hv => by
  simp only [kvc, List.mem_flatMap] at hv
  obtain ⟨k, _, hk⟩ := hv
  simp [Kd.cells] at hk
  rcases hk with rfl | rfl | rfl | rfl | rfl <;> rfl
/-- Kinds in a slice that grew. -/
theorem kds_gv (m : AM) (l : List Kd) (T : AM) : Kds (m ++ (gb (kvc l) 5 :: T)) (gv (m.length + 0) l.length) l := by
  refine ⟨m.length + 0, 0, gv_sl _ _, by simp, fun i hi => ?_⟩
  have hp : 0 < (kvc l).length := by rw [kvc_len]; omega
  rw [gb_pos hp]
  refine ⟨_, by rw [get_app]; rfl, fun j v hj => ?_⟩
  rw [Nat.zero_add]
  exact kvc_get l i hi j v hj
theorem good_take (B : Brd) (K : List Kd) : goodB B (K.take 14) = goodB B K := by
  rcases Nat.lt_or_ge 14 K.length with h | h
  · have h1 : kindsB K = false := by simp [kindsB]; omega
    have h2 : kindsB (K.take 14) = false := by simp [kindsB]; omega
    simp [goodB, h1, h2]
  · rw [List.take_of_length_le h]
theorem good_len {B : Brd} {K : List Kd} (h : goodB B K = true) : K.take 14 = K := by
  simp only [goodB, kindsB, Bool.and_eq_true, decide_eq_true_eq] at h
  exact List.take_of_length_le (by omega)
theorem bl99b {a b c d : Int} {t : Bool} : abuild Tryd.prog 99 [(0, .int .i64 a), (1, .int .i64 b), (2, .int .i64 c), (3, .int .i64 d), (4, .bool t)] = some (.agg #[.int .i64 a, .int .i64 b, .int .i64 c, .int .i64 d, .bool t]) := by kernel_rfl
theorem bs35x {m : AM} {k : Nat} {a b c d : Int} {t : Bool} : abuildSlice Tryd.prog m k 35 1 [(0, .agg #[.int .i64 a, .int .i64 b, .int .i64 c, .int .i64 d, .bool t])] = some (.slice (some ⟨k, 0, none⟩) 1 1, m.set k (some { cells := [.int .i64 a, .int .i64 b, .int .i64 c, .int .i64 d, .bool t] })) := by kernel_rfl
theorem el35 : elemB Tryd.prog 35 = some (99, 5, 40, #[.int .i64 0, .int .i64 0, .int .i64 0, .int .i64 0, .bool false]) := by kernel_rfl
theorem un35 : Tryd.prog.underlying 35 = some (.slice 99) := by kernel_rfl
set_option maxHeartbeats 4000000 in
set_option maxRecDepth 100000 in
theorem of_ok {m : AM} {kv : Value} {K : List Kd} (hk : Kds m kv K) (hlen : K.length ≤ 9223372036854775807) : ACall Tryd.prog 23 #[kv] m (NewG (kvc (K.take 14)) 5 (K.take 14).length m) := by
  obtain ⟨A, O, sl, la, rd⟩ := hk
  obtain ⟨q, c, rfl⟩ := sl.shape
  have wl : Low m.length (.slice q K.length c) := Low.of_sl sl la
  refine ACall.start Tryd.func23 rfl rfl ?_
  (repeat (first | (with_reducible refine AWo.cons ?_) | ((with_reducible refine Step.id ?_); first | ((with_reducible apply Step.move); exact rfl; exact rfl) | ((with_reducible apply Step.assign); exact rfl; exact rfl) | ((with_reducible apply Step.len); exact rfl; (focus (assumption)); (focus (decide +kernel)); exact rfl)) | (with_reducible refine AWo.nil ?_) | ((with_reducible apply AW.seq)) | ((with_reducible apply Then.n)) | ((with_reducible apply AW.regL)) | ((with_reducible apply AW.block))))
  refine AW.loopT (fun n t L => ∃ i : Nat, n = K.length - i ∧ i ≤ K.length ∧ i ≤ 14 ∧ L = [gb (kvc (K.take i)) 5] ∧
    t = [(0, .slice q K.length c), (3, gv (m.length + 0) i), (6, .slice q K.length c), (7, .int .i64 (K.length : Nat)), (8, .int .i64 (i : Nat))])
    ⟨_, _, [none], (Back.padC rfl (by repeat (first | exact trivial | (refine And.intro ⟨rfl, by (first | exact Low.rid (by assumption) (by simp) | exact .int _ _ | exact Ren.of_gv (by first | (simp; done) | omega | (simp; omega)))⟩ ?_))) (by repeat (exact CellsP.nil))), 0, rfl, Nat.zero_le _, Nat.zero_le _, rfl, rfl⟩ ?_
  rintro n t L ⟨i, rfl, hi, hi14, rfl, rfl⟩
  rcases Nat.lt_or_ge i K.length with hlt | hge
  · have rk := rd i hlt
    have hs : K.take (i + 1) = K.take i ++ [K.getD i default] := take_snoc K i default hlt
    generalize K.getD i default = k at rk hs
    obtain ⟨kw, kh, kg, ko, kt⟩ := k
    simp only [Kd.cells] at rk
    by_cases h13 : 13 < i
    · obtain rfl : i = 14 := by omega
      have hg0 := g0_kvc (K.take 14)
      (repeat (first | (with_reducible refine AWo.cons ?_) | ((with_reducible refine Step.id ?_); first | ((with_reducible apply Step.move); exact rfl; exact rfl) | ((with_reducible apply Step.assign); exact rfl; exact rfl) | ((with_reducible apply Step.loadL (n := 5)); exact rfl; (focus (decide +kernel)); (focus (decide +kernel)); exact rfl; (focus (exact RdL.old _ (by assumption))); exact rfl; exact rfl) | ((with_reducible apply Step.ix (s := 5)); exact rfl; (focus (assumption)); exact rfl; (focus (decide +kernel)); exact rfl; (focus (omega))) | ((with_reducible apply Step.lss); exact rfl; exact rfl; exact rfl) | ((with_reducible apply Step.gtr); exact rfl; exact rfl; exact rfl) | ((with_reducible apply Step.alloc 1); exact rfl; exact ze33; exact rfl; (focus (first | (simp only [List.nil_append, List.cons_append, List.set_cons_zero, List.set_cons_succ, iv_set, bv_set, iv_rep, bv_rep]; done) | (simp only [List.nil_append, List.cons_append, List.set_cons_zero, List.set_cons_succ, iv_set, bv_set, iv_rep, bv_rep]; rfl) | rfl))) | ((with_reducible apply Step.storeA (k := 1) (n := 5)); exact rfl; exact rfl; exact rfl; exact rfl; (focus (decide +kernel)); exact rfl; (focus (kernel_rfl)); exact rfl; (focus (first | (simp only [List.nil_append, List.cons_append, List.set_cons_zero, List.set_cons_succ, iv_set, bv_set, iv_rep, bv_rep]; done) | (simp only [List.nil_append, List.cons_append, List.set_cons_zero, List.set_cons_succ, iv_set, bv_set, iv_rep, bv_rep]; rfl) | rfl)))) | (with_reducible refine AWo.nil ?_) | ((with_reducible apply AW.seq)) | ((with_reducible apply Then.n)) | ((with_reducible apply AW.regL)) | ((with_reducible apply AW.block)) | ((with_reducible apply AW.exit)) | ((with_reducible apply InBlk.hit)) | ((with_reducible apply InBlk.miss); exact rfl) | ((with_reducible apply Then.e)) | ((with_reducible apply AW.skip)) | ((with_reducible apply AW.condT); exact rfl; (focus (first | rfl | (simp only [decide_eq_true_eq, decide_eq_false_iff_not, Bool.not_eq_true', Bool.not_eq_false', Bool.not_true, Bool.not_false]; first | assumption | omega))))))
      refine AW.retT (l := [(2, gv (m.length + 0) 14)]) (L1 := [gb (kvc (K.take 14)) 5]) (L2 := [_]) rfl (by repeat (first | exact CellsOk.nil | refine CellsOk.gb (by assumption) ?_)) (by repeat (first | exact trivial | (refine And.intro ⟨rfl, by (exact Ren.of_gv (by first | (simp; done) | omega | (simp; omega)))⟩ ?_))) ?_
      exact ⟨_, rfl, by rw [List.length_take, Nat.min_eq_left (by omega)], rfl⟩
    · have hpl : (kvc (K.take i)).length = i * 5 := by rw [kvc_len, List.length_take]; congr 1; omega
      have hg0 := g0_kvc (K.take (i + 1))
      have hcc : kvc (K.take (i + 1)) = kvc (K.take i) ++ [.int .i64 kw, .int .i64 kh, .int .i64 kg, .int .i64 ko, .bool kt] := by rw [hs, kvc_snoc]; rfl
      rw [hcc] at hg0
      (repeat (first | (with_reducible refine AWo.cons ?_) | ((with_reducible refine Step.id ?_); first | ((with_reducible apply Step.move); exact rfl; exact rfl) | ((with_reducible apply Step.assign); exact rfl; exact rfl) | ((with_reducible apply Step.load); exact rfl; (focus (decide +kernel)); exact rfl; (focus (exact Rd.new rfl rfl))) | ((with_reducible apply Step.loadL (n := 5)); exact rfl; (focus (decide +kernel)); (focus (decide +kernel)); exact rfl; (focus (exact RdL.old _ (by assumption))); exact rfl; exact rfl) | ((with_reducible apply Step.ix (s := 5)); exact rfl; (focus (assumption)); exact rfl; (focus (decide +kernel)); exact rfl; (focus (omega))) | ((with_reducible apply Step.field0); exact rfl; (focus (decide +kernel)); exact rfl) | ((with_reducible apply Step.field (k := 1)); exact rfl; (focus (decide +kernel)); exact rfl) | ((with_reducible apply Step.field (k := 2)); exact rfl; (focus (decide +kernel)); exact rfl) | ((with_reducible apply Step.field (k := 3)); exact rfl; (focus (decide +kernel)); exact rfl) | ((with_reducible apply Step.field (k := 4)); exact rfl; (focus (decide +kernel)); exact rfl) | ((with_reducible apply Step.lss); exact rfl; exact rfl; exact rfl) | ((with_reducible apply Step.gtr); exact rfl; exact rfl; exact rfl) | ((with_reducible apply Step.alloc 1); exact rfl; exact ze33; exact rfl; (focus (first | (simp only [List.nil_append, List.cons_append, List.set_cons_zero, List.set_cons_succ, iv_set, bv_set, iv_rep, bv_rep]; done) | (simp only [List.nil_append, List.cons_append, List.set_cons_zero, List.set_cons_succ, iv_set, bv_set, iv_rep, bv_rep]; rfl) | rfl))) | ((with_reducible apply Step.storeA (k := 1) (n := 5)); exact rfl; exact rfl; exact rfl; exact rfl; (focus (decide +kernel)); exact rfl; (focus (kernel_rfl)); exact rfl; (focus (first | (simp only [List.nil_append, List.cons_append, List.set_cons_zero, List.set_cons_succ, iv_set, bv_set, iv_rep, bv_rep]; done) | (simp only [List.nil_append, List.cons_append, List.set_cons_zero, List.set_cons_succ, iv_set, bv_set, iv_rep, bv_rep]; rfl) | rfl))) | ((with_reducible apply Step.buildS 2); exact rfl; exact rfl; exact (fun _ _ => bs35x); exact rfl; (focus (first | (simp only [List.nil_append, List.cons_append, List.set_cons_zero, List.set_cons_succ, iv_set, bv_set, iv_rep, bv_rep]; done) | (simp only [List.nil_append, List.cons_append, List.set_cons_zero, List.set_cons_succ, iv_set, bv_set, iv_rep, bv_rep]; rfl) | rfl))) | ((with_reducible apply Step.build); exact rfl; exact bl99b; exact rfl)) | (with_reducible refine AWo.nil ?_) | ((with_reducible apply AW.seq)) | ((with_reducible apply Then.n)) | ((with_reducible apply AW.regL)) | ((with_reducible apply AW.block)) | ((with_reducible apply AW.skip)) | ((with_reducible apply AW.condT); exact rfl; (focus ((simp only [decide_eq_true_eq, decide_eq_false_iff_not, Bool.not_eq_true', Bool.not_eq_false', Bool.not_true, Bool.not_false]; first | assumption | omega)))) | ((with_reducible apply AW.condF); exact rfl; (focus ((simp only [decide_eq_true_eq, decide_eq_false_iff_not, Bool.not_eq_true', Bool.not_eq_false', Bool.not_true, Bool.not_false]; first | assumption | omega))))))
      ((with_reducible apply Step.appG (k := 3) (q := 0) (r := 2) (n := i) (xl := 1)); exact rfl; exact rfl; exact rfl; exact el35; exact un35; exact rfl; exact rfl; exact rfl; exact hpl; exact rfl; exact rfl; (focus (kernel_rfl)); (focus (omega)); exact rfl; (focus (first | (simp only [List.nil_append, List.cons_append, List.set_cons_zero, List.set_cons_succ, iv_set, bv_set, iv_rep, bv_rep]; done) | (simp only [List.nil_append, List.cons_append, List.set_cons_zero, List.set_cons_succ, iv_set, bv_set, iv_rep, bv_rep]; rfl) | rfl)))
      (repeat (first | (with_reducible refine AWo.cons ?_) | ((with_reducible refine Step.id ?_); first | ((with_reducible apply Step.move); exact rfl; exact rfl) | ((with_reducible apply Step.assign); exact rfl; exact rfl) | ((with_reducible apply Step.add); exact rfl; exact rfl; (focus (omega)); exact rfl)) | (with_reducible refine AWo.nil ?_) | ((with_reducible apply Then.n)) | ((with_reducible apply AW.regL)) | ((with_reducible apply InBlk.n))))
      exact ⟨_, [(0, .slice q K.length c), (3, .slice (some ⟨m.length + 0, 0, none⟩) (i + 1) (i + 1)), (6, .slice q K.length c), (7, .int .i64 (K.length : Nat)), (8, .int .i64 (i + 1 : Nat))], [some { cells := kvc (K.take i) ++ [.int .i64 kw, .int .i64 kh, .int .i64 kg, .int .i64 ko, .bool kt], kind := .grow, size := 5 }], by omega, (Back.mv 0 3 rfl rfl rfl rfl (by intro j b hj h; rcases j with _ | _ | _ | _ | _ | _ | j <;> simp_all) (by repeat (first | exact CellsOk.nil | refine CellsOk.cons (by assumption) ?_)) (by repeat (first | exact trivial | (refine And.intro ⟨_, rfl, by (first | exact Low.ne (by assumption) (by simp) | exact .int _ _ | exact Ren.slice_mv (by first | (simp; done) | omega | (simp; omega)))⟩ ?_)))), i + 1, rfl, by omega, by omega, by rw [hcc, gb_pos (by simp)], by rw [gv_pos (by omega)]⟩
  · obtain rfl : i = K.length := by omega
    (repeat (first | (with_reducible refine AWo.cons ?_) | ((with_reducible refine Step.id ?_); first | ((with_reducible apply Step.move); exact rfl; exact rfl) | ((with_reducible apply Step.assign); exact rfl; exact rfl) | ((with_reducible apply Step.lss); exact rfl; exact rfl; exact rfl)) | (with_reducible refine AWo.nil ?_) | ((with_reducible apply AW.seq)) | ((with_reducible apply Then.n)) | ((with_reducible apply AW.regL)) | ((with_reducible apply AW.exit)) | ((with_reducible apply InBlk.hit)) | ((with_reducible apply Then.e)) | ((with_reducible apply AW.condF); exact rfl; (focus ((simp only [decide_eq_true_eq, decide_eq_false_iff_not, Bool.not_eq_true', Bool.not_eq_false', Bool.not_true, Bool.not_false]; first | assumption | omega))))))
    (refine AW.retB (l := [(2, _)]) (Or.inl ⟨rfl, (by repeat (first | exact trivial | (refine And.intro rfl ?_)))⟩) ?_; (repeat (first | refine Then.r ?_ | refine InBlk.r ?_)))
    exact ⟨_, rfl, by rw [List.take_of_length_le hi14], by rw [List.take_of_length_le hi14, List.take_of_length_le (Nat.le_refl _)]⟩
end Go.Proofs.YtibhgdglbillaaaDoor.Abs
namespace Go.Proofs.YtibhgdglbillaaaDoor.Abs
set_option linter.unusedSimpArgs false
set_option linter.unusedVariables false
open Go.RowKit
open Go.Proofs.YtibhgdglbillaaaDoor.Sim
open Go.Proofs
set_option maxRecDepth 100000 in
theorem left_ok {m : AM} (r : R4) (i : Nat) : ACall Tryd.prog 74 #[r.rc.v, .int .i64 (i : Nat)] m (Ret (r.lo true i).rc.v m) := by
  refine ACall.drop (Ren.aggI [_, _, _, _]) ?_
  obtain ⟨x, y, a, b⟩ := r
  change ACall Tryd.prog 74 #[.agg #[.int .i64 (x : Nat), .int .i64 (y : Nat), .int .i64 (a : Nat), .int .i64 (b : Nat)], _] m fun v m' => v = .agg #[.int .i64 (x : Nat), .int .i64 (y : Nat), .int .i64 (i : Nat), .int .i64 (b : Nat)] ∧ _
  refine ACall.start Tryd.func74 rfl rfl ?_
  (repeat (first | (with_reducible refine AWo.cons ?_) | ((with_reducible refine Step.id ?_); first | ((with_reducible apply Step.move); exact rfl; exact rfl) | ((with_reducible apply Step.load); exact rfl; (focus (decide +kernel)); exact rfl; (focus (exact Rd.new rfl rfl))) | ((with_reducible apply Step.field0); exact rfl; (focus (decide +kernel)); exact rfl) | ((with_reducible apply Step.field (k := 1)); exact rfl; (focus (decide +kernel)); exact rfl) | ((with_reducible apply Step.field (k := 3)); exact rfl; (focus (decide +kernel)); exact rfl) | ((with_reducible apply Step.box 0); exact rfl; exact rfl; (focus (kernel_rfl)); exact rfl; (focus (first | (simp only [List.nil_append, List.cons_append, List.set_cons_zero, List.set_cons_succ, iv_set, bv_set, iv_rep, bv_rep]; done) | (simp only [List.nil_append, List.cons_append, List.set_cons_zero, List.set_cons_succ, iv_set, bv_set, iv_rep, bv_rep]; rfl) | rfl))) | ((with_reducible apply Step.alloc 1); exact rfl; exact ze23; exact rfl; (focus (first | (simp only [List.nil_append, List.cons_append, List.set_cons_zero, List.set_cons_succ, iv_set, bv_set, iv_rep, bv_rep]; done) | (simp only [List.nil_append, List.cons_append, List.set_cons_zero, List.set_cons_succ, iv_set, bv_set, iv_rep, bv_rep]; rfl) | rfl))) | ((with_reducible apply Step.storeA (k := 1) (n := 4)); exact rfl; exact rfl; exact rfl; exact rfl; (focus (decide +kernel)); exact rfl; (focus (kernel_rfl)); exact rfl; (focus (first | (simp only [List.nil_append, List.cons_append, List.set_cons_zero, List.set_cons_succ, iv_set, bv_set, iv_rep, bv_rep]; done) | (simp only [List.nil_append, List.cons_append, List.set_cons_zero, List.set_cons_succ, iv_set, bv_set, iv_rep, bv_rep]; rfl) | rfl))) | ((with_reducible apply Step.build); exact rfl; exact bl23; exact rfl)) | (with_reducible refine AWo.nil ?_) | ((with_reducible apply AW.seq)) | ((with_reducible apply Then.n)) | ((with_reducible apply AW.regL))))
  (refine AW.ret ?_; (repeat (first | refine Then.r ?_ | refine InBlk.r ?_)))
  exact ⟨_, ares_cell rfl rfl (by decide +kernel) (n := 4) (by decide +kernel) (RdL.new rfl rfl) rfl rfl, rfl, _, rfl⟩
set_option maxRecDepth 100000 in
theorem top_ok {m : AM} (r : R4) (i : Nat) : ACall Tryd.prog 76 #[r.rc.v, .int .i64 (i : Nat)] m (Ret (r.lo false i).rc.v m) := by
  refine ACall.drop (Ren.aggI [_, _, _, _]) ?_
  obtain ⟨x, y, a, b⟩ := r
  change ACall Tryd.prog 76 #[.agg #[.int .i64 (x : Nat), .int .i64 (y : Nat), .int .i64 (a : Nat), .int .i64 (b : Nat)], _] m fun v m' => v = .agg #[.int .i64 (x : Nat), .int .i64 (y : Nat), .int .i64 (a : Nat), .int .i64 (i : Nat)] ∧ _
  refine ACall.start Tryd.func76 rfl rfl ?_
  (repeat (first | (with_reducible refine AWo.cons ?_) | ((with_reducible refine Step.id ?_); first | ((with_reducible apply Step.move); exact rfl; exact rfl) | ((with_reducible apply Step.load); exact rfl; (focus (decide +kernel)); exact rfl; (focus (exact Rd.new rfl rfl))) | ((with_reducible apply Step.field0); exact rfl; (focus (decide +kernel)); exact rfl) | ((with_reducible apply Step.field (k := 1)); exact rfl; (focus (decide +kernel)); exact rfl) | ((with_reducible apply Step.field (k := 2)); exact rfl; (focus (decide +kernel)); exact rfl) | ((with_reducible apply Step.box 0); exact rfl; exact rfl; (focus (kernel_rfl)); exact rfl; (focus (first | (simp only [List.nil_append, List.cons_append, List.set_cons_zero, List.set_cons_succ, iv_set, bv_set, iv_rep, bv_rep]; done) | (simp only [List.nil_append, List.cons_append, List.set_cons_zero, List.set_cons_succ, iv_set, bv_set, iv_rep, bv_rep]; rfl) | rfl))) | ((with_reducible apply Step.alloc 1); exact rfl; exact ze23; exact rfl; (focus (first | (simp only [List.nil_append, List.cons_append, List.set_cons_zero, List.set_cons_succ, iv_set, bv_set, iv_rep, bv_rep]; done) | (simp only [List.nil_append, List.cons_append, List.set_cons_zero, List.set_cons_succ, iv_set, bv_set, iv_rep, bv_rep]; rfl) | rfl))) | ((with_reducible apply Step.storeA (k := 1) (n := 4)); exact rfl; exact rfl; exact rfl; exact rfl; (focus (decide +kernel)); exact rfl; (focus (kernel_rfl)); exact rfl; (focus (first | (simp only [List.nil_append, List.cons_append, List.set_cons_zero, List.set_cons_succ, iv_set, bv_set, iv_rep, bv_rep]; done) | (simp only [List.nil_append, List.cons_append, List.set_cons_zero, List.set_cons_succ, iv_set, bv_set, iv_rep, bv_rep]; rfl) | rfl))) | ((with_reducible apply Step.build); exact rfl; exact bl23; exact rfl)) | (with_reducible refine AWo.nil ?_) | ((with_reducible apply AW.seq)) | ((with_reducible apply Then.n)) | ((with_reducible apply AW.regL))))
  (refine AW.ret ?_; (repeat (first | refine Then.r ?_ | refine InBlk.r ?_)))
  exact ⟨_, ares_cell rfl rfl (by decide +kernel) (n := 4) (by decide +kernel) (RdL.new rfl rfl) rfl rfl, rfl, _, rfl⟩
set_option maxRecDepth 100000 in
theorem rightp_ok {m : AM} (r : R4) {i : Nat} (h2 : i + 1 ≤ r.len true) (hx : r.x ≤ 16 ∧ r.y ≤ 16 ∧ r.a ≤ 16 ∧ r.b ≤ 16) : ACall Tryd.prog 75 #[r.rc.v, .int .i64 (i : Nat)] m (Ret (r.hi true i).rc.v m) := by
  refine ACall.drop (Ren.aggI [_, _, _, _]) ?_
  obtain ⟨x, y, a, b⟩ := r
  change i + 1 ≤ a at h2
  simp only at hx
  change ACall Tryd.prog 75 #[.agg #[.int .i64 (x : Nat), .int .i64 (y : Nat), .int .i64 (a : Nat), .int .i64 (b : Nat)], _] m fun v m' => v = .agg #[.int .i64 ((x + i : Nat)), .int .i64 (y : Nat), .int .i64 ((a - i : Nat)), .int .i64 (b : Nat)] ∧ _
  have e1 : ((x + i : Nat) : Int) = (x : Int) + (i : Int) := by omega
  have e2 : ((a - i : Nat) : Int) = (a : Int) - (i : Int) := by omega
  rw [e1, e2]
  refine ACall.start Tryd.func75 rfl rfl ?_
  (repeat (first | (with_reducible refine AWo.cons ?_) | ((with_reducible refine Step.id ?_); first | ((with_reducible apply Step.move); exact rfl; exact rfl) | ((with_reducible apply Step.load); exact rfl; (focus (decide +kernel)); exact rfl; (focus (exact Rd.new rfl rfl))) | ((with_reducible apply Step.field0); exact rfl; (focus (decide +kernel)); exact rfl) | ((with_reducible apply Step.field (k := 1)); exact rfl; (focus (decide +kernel)); exact rfl) | ((with_reducible apply Step.field (k := 2)); exact rfl; (focus (decide +kernel)); exact rfl) | ((with_reducible apply Step.field (k := 3)); exact rfl; (focus (decide +kernel)); exact rfl) | ((with_reducible apply Step.add); exact rfl; exact rfl; (focus (omega)); exact rfl) | ((with_reducible apply Step.sub); exact rfl; exact rfl; (focus (omega)); exact rfl) | ((with_reducible apply Step.box 0); exact rfl; exact rfl; (focus (kernel_rfl)); exact rfl; (focus (first | (simp only [List.nil_append, List.cons_append, List.set_cons_zero, List.set_cons_succ, iv_set, bv_set, iv_rep, bv_rep]; done) | (simp only [List.nil_append, List.cons_append, List.set_cons_zero, List.set_cons_succ, iv_set, bv_set, iv_rep, bv_rep]; rfl) | rfl))) | ((with_reducible apply Step.alloc 1); exact rfl; exact ze23; exact rfl; (focus (first | (simp only [List.nil_append, List.cons_append, List.set_cons_zero, List.set_cons_succ, iv_set, bv_set, iv_rep, bv_rep]; done) | (simp only [List.nil_append, List.cons_append, List.set_cons_zero, List.set_cons_succ, iv_set, bv_set, iv_rep, bv_rep]; rfl) | rfl))) | ((with_reducible apply Step.storeA (k := 1) (n := 4)); exact rfl; exact rfl; exact rfl; exact rfl; (focus (decide +kernel)); exact rfl; (focus (kernel_rfl)); exact rfl; (focus (first | (simp only [List.nil_append, List.cons_append, List.set_cons_zero, List.set_cons_succ, iv_set, bv_set, iv_rep, bv_rep]; done) | (simp only [List.nil_append, List.cons_append, List.set_cons_zero, List.set_cons_succ, iv_set, bv_set, iv_rep, bv_rep]; rfl) | rfl))) | ((with_reducible apply Step.build); exact rfl; exact bl23; exact rfl)) | (with_reducible refine AWo.nil ?_) | ((with_reducible apply AW.seq)) | ((with_reducible apply Then.n)) | ((with_reducible apply AW.regL))))
  (refine AW.ret ?_; (repeat (first | refine Then.r ?_ | refine InBlk.r ?_)))
  exact ⟨_, ares_cell rfl rfl (by decide +kernel) (n := 4) (by decide +kernel) (RdL.new rfl rfl) rfl rfl, rfl, _, rfl⟩
set_option maxRecDepth 100000 in
theorem bottom_ok {m : AM} (r : R4) {i : Nat} (h2 : i + 1 ≤ r.len false) (hx : r.x ≤ 16 ∧ r.y ≤ 16 ∧ r.a ≤ 16 ∧ r.b ≤ 16) : ACall Tryd.prog 77 #[r.rc.v, .int .i64 (i : Nat)] m (Ret (r.hi false i).rc.v m) := by
  refine ACall.drop (Ren.aggI [_, _, _, _]) ?_
  obtain ⟨x, y, a, b⟩ := r
  change i + 1 ≤ b at h2
  simp only at hx
  change ACall Tryd.prog 77 #[.agg #[.int .i64 (x : Nat), .int .i64 (y : Nat), .int .i64 (a : Nat), .int .i64 (b : Nat)], _] m fun v m' => v = .agg #[.int .i64 (x : Nat), .int .i64 ((y + i : Nat)), .int .i64 (a : Nat), .int .i64 ((b - i : Nat))] ∧ _
  have e1 : ((y + i : Nat) : Int) = (y : Int) + (i : Int) := by omega
  have e2 : ((b - i : Nat) : Int) = (b : Int) - (i : Int) := by omega
  rw [e1, e2]
  refine ACall.start Tryd.func77 rfl rfl ?_
  (repeat (first | (with_reducible refine AWo.cons ?_) | ((with_reducible refine Step.id ?_); first | ((with_reducible apply Step.move); exact rfl; exact rfl) | ((with_reducible apply Step.load); exact rfl; (focus (decide +kernel)); exact rfl; (focus (exact Rd.new rfl rfl))) | ((with_reducible apply Step.field0); exact rfl; (focus (decide +kernel)); exact rfl) | ((with_reducible apply Step.field (k := 1)); exact rfl; (focus (decide +kernel)); exact rfl) | ((with_reducible apply Step.field (k := 2)); exact rfl; (focus (decide +kernel)); exact rfl) | ((with_reducible apply Step.field (k := 3)); exact rfl; (focus (decide +kernel)); exact rfl) | ((with_reducible apply Step.add); exact rfl; exact rfl; (focus (omega)); exact rfl) | ((with_reducible apply Step.sub); exact rfl; exact rfl; (focus (omega)); exact rfl) | ((with_reducible apply Step.box 0); exact rfl; exact rfl; (focus (kernel_rfl)); exact rfl; (focus (first | (simp only [List.nil_append, List.cons_append, List.set_cons_zero, List.set_cons_succ, iv_set, bv_set, iv_rep, bv_rep]; done) | (simp only [List.nil_append, List.cons_append, List.set_cons_zero, List.set_cons_succ, iv_set, bv_set, iv_rep, bv_rep]; rfl) | rfl))) | ((with_reducible apply Step.alloc 1); exact rfl; exact ze23; exact rfl; (focus (first | (simp only [List.nil_append, List.cons_append, List.set_cons_zero, List.set_cons_succ, iv_set, bv_set, iv_rep, bv_rep]; done) | (simp only [List.nil_append, List.cons_append, List.set_cons_zero, List.set_cons_succ, iv_set, bv_set, iv_rep, bv_rep]; rfl) | rfl))) | ((with_reducible apply Step.storeA (k := 1) (n := 4)); exact rfl; exact rfl; exact rfl; exact rfl; (focus (decide +kernel)); exact rfl; (focus (kernel_rfl)); exact rfl; (focus (first | (simp only [List.nil_append, List.cons_append, List.set_cons_zero, List.set_cons_succ, iv_set, bv_set, iv_rep, bv_rep]; done) | (simp only [List.nil_append, List.cons_append, List.set_cons_zero, List.set_cons_succ, iv_set, bv_set, iv_rep, bv_rep]; rfl) | rfl))) | ((with_reducible apply Step.build); exact rfl; exact bl23; exact rfl)) | (with_reducible refine AWo.nil ?_) | ((with_reducible apply AW.seq)) | ((with_reducible apply Then.n)) | ((with_reducible apply AW.regL))))
  (refine AW.ret ?_; (repeat (first | refine Then.r ?_ | refine InBlk.r ?_)))
  exact ⟨_, ares_cell rfl rfl (by decide +kernel) (n := 4) (by decide +kernel) (RdL.new rfl rfl) rfl rfl, rfl, _, rfl⟩
set_option maxRecDepth 100000 in
theorem sums_ok {m : AM} {a x y : Int} (ha : I64 a) (hx : 0 ≤ x) (hy : 0 ≤ y) : ACall Tryd.prog 104 #[.int .i64 a, .int .i64 x, .int .i64 y] m (Ret (.bool (decide (x + y ≤ a))) m) := by
  unfold I64 at ha
  refine ACall.start Tryd.func104 rfl rfl ?_
  by_cases h1 : x ≤ a
  · (repeat (first | (with_reducible refine AWo.cons ?_) | ((with_reducible refine Step.id ?_); first | ((with_reducible apply Step.gdT); exact rfl; exact rfl; (focus ((simp only [decide_eq_true_eq, decide_eq_false_iff_not, Bool.not_eq_true', Bool.not_eq_false', Bool.not_true, Bool.not_false]; first | assumption | omega)))) | ((with_reducible apply Step.move); exact rfl; exact rfl) | ((with_reducible apply Step.assign); exact rfl; exact rfl) | ((with_reducible apply Step.sub); exact rfl; exact rfl; (focus (omega)); exact rfl) | ((with_reducible apply Step.leq); exact rfl; exact rfl; exact rfl) | ((with_reducible apply Step.pickT); exact rfl; exact rfl; exact rfl; exact rfl; (focus ((simp only [decide_eq_true_eq, decide_eq_false_iff_not, Bool.not_eq_true', Bool.not_eq_false', Bool.not_true, Bool.not_false]; first | assumption | omega))))) | (with_reducible refine AWo.nil ?_) | ((with_reducible apply AW.seq)) | ((with_reducible apply Then.n)) | ((with_reducible apply AW.regL))))
    (refine AW.retD (l := [(6, _)]) (by repeat (first | exact trivial | (refine And.intro ⟨rfl, by (exact .bool _)⟩ ?_))) ?_; (repeat (first | refine Then.r ?_ | refine InBlk.r ?_)))
    exact ⟨_, rfl, by congr 1; simp [h1]; constructor <;> intro h <;> omega, rfl⟩
  · (repeat (first | (with_reducible refine AWo.cons ?_) | ((with_reducible refine Step.id ?_); first | ((with_reducible apply Step.gdF); exact rfl; exact rfl; (focus ((simp only [decide_eq_true_eq, decide_eq_false_iff_not, Bool.not_eq_true', Bool.not_eq_false', Bool.not_true, Bool.not_false]; first | assumption | omega)))) | ((with_reducible apply Step.move); exact rfl; exact rfl) | ((with_reducible apply Step.assign); exact rfl; exact rfl) | ((with_reducible apply Step.leq); exact rfl; exact rfl; exact rfl) | ((with_reducible apply Step.pickF); exact rfl; exact rfl; exact rfl; exact rfl; (focus ((simp only [decide_eq_true_eq, decide_eq_false_iff_not, Bool.not_eq_true', Bool.not_eq_false', Bool.not_true, Bool.not_false]; first | assumption | omega))))) | (with_reducible refine AWo.nil ?_) | ((with_reducible apply AW.seq)) | ((with_reducible apply Then.n)) | ((with_reducible apply AW.regL))))
    (refine AW.retD (l := [(6, _)]) (by repeat (first | exact trivial | (refine And.intro ⟨rfl, by (exact .bool _)⟩ ?_))) ?_; (repeat (first | refine Then.r ?_ | refine InBlk.r ?_)))
    exact ⟨_, rfl, by congr 1; simp; omega, rfl⟩
end Go.Proofs.YtibhgdglbillaaaDoor.Abs
namespace Go.Proofs.YtibhgdglbillaaaDoor.Abs
set_option linter.unusedSimpArgs false
set_option linter.unusedVariables false
open Go.RowKit
open Go.Proofs.YtibhgdglbillaaaDoor.Sim
open Go.Proofs
set_option maxHeartbeats 8000000 in
set_option maxRecDepth 100000 in
theorem Table_ok {m : AM} {sv kv : Value} {B : Brd} {K : List Kd} (hs : Strs m sv B) (hk : Kds m kv K) (hg : goodB B K = true) :
    ACall Tryd.prog 83 #[sv, kv] m (New (some { cells := iv (boardT B K) }) (total (bw B) (bh B)) m) := by
  have hgb : boardB B = true := by simp only [goodB, Bool.and_eq_true] at hg; exact hg.1
  have hin := good_in hgb
  have hR := fun m => RRects_ok (m := m) (bw B : Nat) (bh B : Nat)
  rw [total_rects hg] at hR
  have htl := total_le hin.2.2.2 hin.2.1
  have hb0 : 0 < B.length := hin.1
  have hpc := fun T r (hr : R4.ok (bw B) (bh B) r) => piece_ok (hs.old T) (hk.old T) hg hr
  have hV := fun r (hr : R4.ok (bw B) (bh B) r) => V_in hg hr
  have hE := bstep_each (leaf := leafM B K) hin.2.2.2 hin.2.1
  have hlf := leafM_in hg
  obtain ⟨A1, O1, sl1, la1, rd1⟩ := hs
  obtain ⟨q1, c1, rfl⟩ := sl1.shape
  have r0 := rd1 0 hb0
  obtain ⟨A2, O2, sl2, la2, _⟩ := hk
  obtain ⟨q2, c2, rfl⟩ := sl2.shape
  have w1 : Low m.length (.slice q1 B.length c1) := Low.of_sl sl1 la1
  have w2 : Low m.length (.slice q2 K.length c2) := Low.of_sl sl2 la2
  have hbT : boardT B K = fW (bstep (leafM B K) (bw B) (bh B)) (bw B) (bh B) (bw B) (List.replicate (total (bw B) (bh B)) 0) := rfl
  rw [hbT]
  refine ACall.start Tryd.func83 rfl rfl ?_
  obtain ⟨w, hw⟩ : ∃ w, bw B = w := ⟨_, rfl⟩
  obtain ⟨h, hh⟩ : ∃ h, bh B = h := ⟨_, rfl⟩
  have hw' : (rowOf B 0).size = w := hw
  have hh' : B.length = h := hh
  rw [hw, hh] at hR htl hpc hV hE hin
  rw [hw, hh]
  rw [hh'] at sl1 w1 hpc
  rw [hh']
  (repeat (first | (with_reducible refine AWo.cons ?_) | ((with_reducible refine Step.id ?_); first | ((with_reducible apply Step.move); exact rfl; exact rfl) | ((with_reducible apply Step.assign); exact rfl; exact rfl) | ((with_reducible apply Step.load); exact rfl; (focus (decide +kernel)); exact rfl; (focus (exact Rd.old _ (by assumption)))) | ((with_reducible apply Step.ix1 (k := 0)); exact rfl; (focus (assumption)); exact rfl; (focus (decide +kernel)); exact rfl; (focus (omega))) | ((with_reducible apply Step.lenS); exact rfl; exact un9; exact rfl) | ((with_reducible apply Step.len); exact rfl; (focus (assumption)); (focus (decide +kernel)); exact rfl)) | (with_reducible refine AWo.nil ?_) | ((fail_if_success (with_reducible refine AW.atR (id := 2) ?_)); ((with_reducible apply AW.seq))) | ((with_reducible apply Then.n)) | ((with_reducible apply AW.regL))))
  rw [hw']
  simp only [pairV] at hR
  (repeat (first | (with_reducible refine AWo.cons ?_) | ((with_reducible refine Step.id ?_); first | ((with_reducible apply Step.move); exact rfl; exact rfl) | ((with_reducible apply Step.assign); exact rfl; exact rfl) | ((with_reducible apply Step.extract); exact rfl; exact rfl; exact rfl) | ((with_reducible apply Step.callR fit); exact rfl; exact Tryd.func18; exact rfl; exact rfl; exact (hR _)) | ((with_reducible apply Step.make1 0); exact rfl; exact rfl; exact rfl; exact el47; (focus (omega)); exact rfl; (focus (first | (simp only [List.nil_append, List.cons_append, List.set_cons_zero, List.set_cons_succ, iv_set, bv_set, iv_rep, bv_rep]; done) | (simp only [List.nil_append, List.cons_append, List.set_cons_zero, List.set_cons_succ, iv_set, bv_set, iv_rep, bv_rep]; rfl) | rfl)))) | (with_reducible refine AWo.nil ?_) | ((with_reducible apply AW.seq)) | ((with_reducible apply Then.n)) | ((with_reducible apply AW.regL)) | ((with_reducible apply AW.block))))
  have H0 : TabI (V (leafM B K)) w h (done w h 0 0 0 0) (List.replicate (total w h) 0) := by rw [done_start]; exact TabI.zero
  refine AW.loopT (fun n t L => ∃ i : Nat, n = w - i ∧ i ≤ w ∧ L = [some { cells := iv (fW (bstep (leafM B K) w h) w h i (List.replicate (total w h) 0)) }] ∧ t = [(0, .slice q1 h c1), (1, .slice q2 K.length c2), (5, .int .i64 (w : Nat)), (6, .int .i64 (h : Nat)), (9, .slice (some ⟨m.length + 0, 0, none⟩) (total w h) (total w h)), (10, .int .i64 (i + 1 : Nat))])
    ⟨_, _, _, (Or.inl ⟨rfl, (by repeat (first | exact trivial | (refine And.intro rfl ?_)))⟩), 0, rfl, Nat.zero_le _, rfl, rfl⟩ ?_
  rintro n t L ⟨i, rfl, hi, rfl, rfl⟩
  have H1 := hE.fw H0 i hi
  rcases Nat.lt_or_ge i w with hiw | hiw
  · (repeat (first | (with_reducible refine AWo.cons ?_) | ((with_reducible refine Step.id ?_); first | ((with_reducible apply Step.move); exact rfl; exact rfl) | ((with_reducible apply Step.assign); exact rfl; exact rfl) | ((with_reducible apply Step.leq); exact rfl; exact rfl; exact rfl)) | (with_reducible refine AWo.nil ?_) | ((with_reducible apply AW.seq)) | ((with_reducible apply Then.n)) | ((with_reducible apply AW.regL)) | ((with_reducible apply AW.block)) | ((with_reducible apply AW.skip)) | ((with_reducible apply AW.condT); exact rfl; (focus ((simp only [decide_eq_true_eq, decide_eq_false_iff_not, Bool.not_eq_true', Bool.not_eq_false', Bool.not_true, Bool.not_false]; first | assumption | omega))))))
    refine AW.loopT (fun n t L => ∃ j : Nat, n = h - j ∧ j ≤ h ∧ L = [some { cells := iv (fH (bstep (leafM B K) w h) w h (i + 1) j (fW (bstep (leafM B K) w h) w h i (List.replicate (total w h) 0))) }] ∧ t = [(0, .slice q1 h c1), (1, .slice q2 K.length c2), (5, .int .i64 (w : Nat)), (6, .int .i64 (h : Nat)), (9, .slice (some ⟨m.length + 0, 0, none⟩) (total w h) (total w h)), (10, .int .i64 (i + 1 : Nat)), (11, .int .i64 (j + 1 : Nat))])
      ⟨_, _, _, (Or.inl ⟨rfl, (by repeat (first | exact trivial | (refine And.intro rfl ?_)))⟩), 0, rfl, Nat.zero_le _, rfl, rfl⟩ ?_
    rintro n t L ⟨j, rfl, hj, rfl, rfl⟩
    have H2 := hE.fh hiw H1 j hj
    rcases Nat.lt_or_ge j h with hjh | hjh
    · (repeat (first | (with_reducible refine AWo.cons ?_) | ((with_reducible refine Step.id ?_); first | ((with_reducible apply Step.move); exact rfl; exact rfl) | ((with_reducible apply Step.assign); exact rfl; exact rfl) | ((with_reducible apply Step.leq); exact rfl; exact rfl; exact rfl)) | (with_reducible refine AWo.nil ?_) | ((with_reducible apply AW.seq)) | ((with_reducible apply Then.n)) | ((with_reducible apply AW.regL)) | ((with_reducible apply AW.block)) | ((with_reducible apply AW.skip)) | ((with_reducible apply AW.condT); exact rfl; (focus ((simp only [decide_eq_true_eq, decide_eq_false_iff_not, Bool.not_eq_true', Bool.not_eq_false', Bool.not_true, Bool.not_false]; first | assumption | omega))))))
      refine AW.loopT (fun n t L => ∃ y : Nat, n = h - j - y ∧ y ≤ h - j ∧ L = [some { cells := iv (fY (bstep (leafM B K) w h) w (i + 1) (j + 1) y (fH (bstep (leafM B K) w h) w h (i + 1) j (fW (bstep (leafM B K) w h) w h i (List.replicate (total w h) 0)))) }] ∧ t = [(0, .slice q1 h c1), (1, .slice q2 K.length c2), (5, .int .i64 (w : Nat)), (6, .int .i64 (h : Nat)), (9, .slice (some ⟨m.length + 0, 0, none⟩) (total w h) (total w h)), (10, .int .i64 (i + 1 : Nat)), (11, .int .i64 (j + 1 : Nat)), (12, .int .i64 (y : Nat))])
        ⟨_, _, _, (Or.inl ⟨rfl, (by repeat (first | exact trivial | (refine And.intro rfl ?_)))⟩), 0, rfl, Nat.zero_le _, rfl, rfl⟩ ?_
      rintro n t L ⟨y, rfl, hy, rfl, rfl⟩
      have H3 := hE.fy hiw hjh H2 y hy
      have e1 : (y : Int) + ((j + 1 : Nat) : Int) = ((y + (j + 1) : Nat) : Int) := by omega
      rcases Nat.lt_or_ge y (h - j) with hyh | hyh
      · (repeat (first | (with_reducible refine AWo.cons ?_) | ((with_reducible refine Step.id ?_); first | ((with_reducible apply Step.move); exact rfl; exact rfl) | ((with_reducible apply Step.assign); exact rfl; exact rfl) | ((with_reducible apply Step.addE); exact rfl; exact rfl; (focus (assumption)); (focus (omega)); exact rfl) | ((with_reducible apply Step.leq); exact rfl; exact rfl; exact rfl)) | (with_reducible refine AWo.nil ?_) | ((with_reducible apply AW.seq)) | ((with_reducible apply Then.n)) | ((with_reducible apply AW.regL)) | ((with_reducible apply AW.block)) | ((with_reducible apply AW.skip)) | ((with_reducible apply AW.condT); exact rfl; (focus ((simp only [decide_eq_true_eq, decide_eq_false_iff_not, Bool.not_eq_true', Bool.not_eq_false', Bool.not_true, Bool.not_false]; first | assumption | omega))))))
        refine AW.loopT (fun n t L => ∃ x : Nat, n = w - i - x ∧ x ≤ w - i ∧ L = [some { cells := iv (fX (bstep (leafM B K) w h) y (i + 1) (j + 1) x (fY (bstep (leafM B K) w h) w (i + 1) (j + 1) y (fH (bstep (leafM B K) w h) w h (i + 1) j (fW (bstep (leafM B K) w h) w h i (List.replicate (total w h) 0))))) }] ∧ t = [(0, .slice q1 h c1), (1, .slice q2 K.length c2), (5, .int .i64 (w : Nat)), (6, .int .i64 (h : Nat)), (9, .slice (some ⟨m.length + 0, 0, none⟩) (total w h) (total w h)), (10, .int .i64 (i + 1 : Nat)), (11, .int .i64 (j + 1 : Nat)), (12, .int .i64 (y : Nat)), (13, .int .i64 (x : Nat))])
          ⟨_, _, _, (Or.inl ⟨rfl, (by repeat (first | exact trivial | (refine And.intro rfl ?_)))⟩), 0, rfl, Nat.zero_le _, rfl, rfl⟩ ?_
        rintro n t L ⟨x, rfl, hx, rfl, rfl⟩
        have e2 : (x : Int) + ((i + 1 : Nat) : Int) = ((x + (i + 1) : Nat) : Int) := by omega
        rcases Nat.lt_or_ge x (w - i) with hxw | hxw
        · have H4 := hE.fx hiw hjh (by omega) H3 x (by omega)
          have hr : (R4.mk x y (i + 1) (j + 1)).ok w h := step_ok hiw hjh (by omega) (by omega)
          have hst : fX (bstep (leafM B K) w h) y (i + 1) (j + 1) (x + 1) (fY (bstep (leafM B K) w h) w (i + 1) (j + 1) y (fH (bstep (leafM B K) w h) w h (i + 1) j (fW (bstep (leafM B K) w h) w h i (List.replicate (total w h) 0)))) = bstep (leafM B K) w h ⟨x, y, i + 1, j + 1⟩ (fX (bstep (leafM B K) w h) y (i + 1) (j + 1) x (fY (bstep (leafM B K) w h) w (i + 1) (j + 1) y (fH (bstep (leafM B K) w h) w h (i + 1) j (fW (bstep (leafM B K) w h) w h i (List.replicate (total w h) 0))))) := rfl
          generalize (fX (bstep (leafM B K) w h) y (i + 1) (j + 1) x (fY (bstep (leafM B K) w h) w (i + 1) (j + 1) y (fH (bstep (leafM B K) w h) w h (i + 1) j (fW (bstep (leafM B K) w h) w h i (List.replicate (total w h) 0))))) = s at *
          have hsl := H4.len
          have hF := H4.fair (fun r hd => by have := hV r hd.1; omega)
          have hp := fun T => hpc T _ hr
          have hpos := fun d => len_pos d hr
          have hle := fun d => len_le d (show w ≤ 16 by omega) (show h ≤ 16 by omega) hr
          have hlo := fun d k h1 h2 => lo_ok (d := d) (i := k) hr h1 h2
          have hhi := fun d k h1 h2 => hi_ok (d := d) (i := k) hr h1 h2
          have hat := fun (r' : R4) (h' : r'.ok w h) => at_lt (show w ≤ 16 by omega) (show h ≤ 16 by omega) h'
          rw [← hsl] at hat
          have hN := fun M (r' : R4) (h' : r'.ok w h) => place_ok' (m := M) (show w ≤ 16 by omega) (show h ≤ 16 by omega) h'
          have p1 := fun M k => left_ok (m := M) ⟨x, y, i + 1, j + 1⟩ k
          have p2 := fun M k hh => rightp_ok (m := M) ⟨x, y, i + 1, j + 1⟩ (i := k) hh (by simp only; omega)
          have p3 := fun M k => top_ok (m := M) ⟨x, y, i + 1, j + 1⟩ k
          have p4 := fun M k hh => bottom_ok (m := M) ⟨x, y, i + 1, j + 1⟩ (i := k) hh (by simp only; omega)
          have hbs : bstep (leafM B K) w h ⟨x, y, i + 1, j + 1⟩ s = s.set ((R4.mk x y (i + 1) (j + 1)).at w h) (max (max (leafM B K ⟨x, y, i + 1, j + 1⟩) (cutM (tg w h s) ⟨x, y, i + 1, j + 1⟩ true)) (cutM (tg w h s) ⟨x, y, i + 1, j + 1⟩ false)) := rfl
          have hleaf := hlf ⟨x, y, i + 1, j + 1⟩
          have hcn := fun d => mxc_nonneg (fun k => tg w h s ((R4.mk x y (i + 1) (j + 1)).lo d k) + tg w h s ((R4.mk x y (i + 1) (j + 1)).hi d k)) ((R4.mk x y (i + 1) (j + 1)).len d - 1)
          change ∀ d, 0 ≤ cutM (tg w h s) (R4.mk x y (i + 1) (j + 1)) d at hcn
          have hg0 : ∀ v ∈ (R4.mk x y (i + 1) (j + 1)).rc.cells, g0 v = true := fun v hv => by
            simp [Rc.cells] at hv
            rcases hv with rfl | rfl | rfl | rfl <;> rfl
          have hatr := hat _ hr
          have hNr := fun M => hN M _ hr
          have hlentrue : (R4.mk x y (i + 1) (j + 1)).len true = i + 1 := rfl
          have hlenfalse : (R4.mk x y (i + 1) (j + 1)).len false = j + 1 := rfl
          have r9 : ∀ b0 (T : AM), RdL (m ++ (b0 :: some { cells := (R4.mk x y (i + 1) (j + 1)).rc.cells } :: T)) (m.length + 1) 0 (R4.mk x y (i + 1) (j + 1)).rc.cells := fun b0 T => RdL.new rfl rfl
          change ∀ T, ACall Tryd.prog 78 #[_, _, .agg (R4.mk x y (i + 1) (j + 1)).rc.cells.toArray] _ _ at hp
          change ∀ M (r' : R4), _ → ACall Tryd.prog 64 #[_, _, .agg r'.rc.cells.toArray] _ _ at hN
          change ∀ M, ACall Tryd.prog 64 #[_, _, .agg (R4.mk x y (i + 1) (j + 1)).rc.cells.toArray] _ _ at hNr
          change ∀ M k, ACall Tryd.prog 74 #[.agg (R4.mk x y (i + 1) (j + 1)).rc.cells.toArray, _] _ (Ret (.agg ((R4.mk x y (i + 1) (j + 1)).lo true k).rc.cells.toArray) _) at p1
          change ∀ M k, _ → ACall Tryd.prog 75 #[.agg (R4.mk x y (i + 1) (j + 1)).rc.cells.toArray, _] _ (Ret (.agg ((R4.mk x y (i + 1) (j + 1)).hi true k).rc.cells.toArray) _) at p2
          change ∀ M k, ACall Tryd.prog 76 #[.agg (R4.mk x y (i + 1) (j + 1)).rc.cells.toArray, _] _ (Ret (.agg ((R4.mk x y (i + 1) (j + 1)).lo false k).rc.cells.toArray) _) at p3
          change ∀ M k, _ → ACall Tryd.prog 77 #[.agg (R4.mk x y (i + 1) (j + 1)).rc.cells.toArray, _] _ (Ret (.agg ((R4.mk x y (i + 1) (j + 1)).hi false k).rc.cells.toArray) _) at p4
          (repeat (first | (with_reducible refine AWo.cons ?_) | ((with_reducible refine Step.id ?_); first | ((with_reducible apply Step.move); exact rfl; exact rfl) | ((with_reducible apply Step.addE); exact rfl; exact rfl; (focus (assumption)); (focus (omega)); exact rfl) | ((with_reducible apply Step.leq); exact rfl; exact rfl; exact rfl) | ((with_reducible apply Step.alloc 1); exact rfl; exact ze23; exact rfl; (focus (first | (simp only [List.nil_append, List.cons_append, List.set_cons_zero, List.set_cons_succ, iv_set, bv_set, iv_rep, bv_rep]; done) | (simp only [List.nil_append, List.cons_append, List.set_cons_zero, List.set_cons_succ, iv_set, bv_set, iv_rep, bv_rep]; rfl) | rfl))) | ((with_reducible apply Step.storeA (k := 1) (n := 4)); exact rfl; exact rfl; exact rfl; exact rfl; (focus (decide +kernel)); exact rfl; (focus (kernel_rfl)); exact rfl; (focus (first | (simp only [List.nil_append, List.cons_append, List.set_cons_zero, List.set_cons_succ, iv_set, bv_set, iv_rep, bv_rep]; done) | (simp only [List.nil_append, List.cons_append, List.set_cons_zero, List.set_cons_succ, iv_set, bv_set, iv_rep, bv_rep]; rfl) | rfl))) | ((with_reducible apply Step.build); exact rfl; exact bl23; exact rfl)) | (with_reducible refine AWo.nil ?_) | ((fail_if_success (with_reducible refine AW.atR (id := 17) ?_)); ((with_reducible apply AW.seq))) | ((with_reducible apply Then.n)) | ((with_reducible apply AW.regL)) | ((with_reducible apply AW.block)) | ((with_reducible apply AW.skip)) | ((with_reducible apply AW.condT); exact rfl; (focus ((simp only [decide_eq_true_eq, decide_eq_false_iff_not, Bool.not_eq_true', Bool.not_eq_false', Bool.not_true, Bool.not_false]; first | assumption | omega))))))
          change AW _ _ _ _ _ (m ++ [some { cells := iv s }, some { cells := (R4.mk x y (i + 1) (j + 1)).rc.cells }]) _
          generalize R4.mk x y (i + 1) (j + 1) = r at *
          generalize hlfe : leafM B K r = lf at *
          (repeat (first | (with_reducible refine AWo.cons ?_) | ((with_reducible refine Step.id ?_); first | ((with_reducible apply Step.move); exact rfl; exact rfl) | ((with_reducible apply Step.assign); exact rfl; exact rfl) | ((with_reducible apply Step.loadL (n := 4)); exact rfl; (focus (decide +kernel)); (focus (decide +kernel)); exact rfl; (focus (exact RdL.new rfl rfl)); exact rfl; exact rfl) | ((with_reducible apply Step.extract); exact rfl; exact rfl; exact rfl) | ((with_reducible apply Step.callR fit); exact rfl; exact Tryd.func78; exact rfl; exact rfl; exact (hp _))) | (with_reducible refine AWo.nil ?_) | ((with_reducible apply AW.seq)) | ((with_reducible apply Then.n)) | ((with_reducible apply AW.regL)) | ((with_reducible apply AW.block))))
          refine AW.loopT (fun n t L => ∃ k : Nat, n = (i + 1) - k ∧ k + 1 ≤ (i + 1) ∧ L = [some { cells := iv s }, some { cells := r.rc.cells }] ∧ t = [(0, .slice q1 h c1), (1, .slice q2 K.length c2), (5, .int .i64 (w : Nat)), (6, .int .i64 (h : Nat)), (9, .slice (some ⟨m.length + 0, 0, none⟩) (total w h) (total w h)), (10, .int .i64 (i + 1 : Nat)), (11, .int .i64 (j + 1 : Nat)), (12, .int .i64 (y : Nat)), (13, .int .i64 (x : Nat)), (14, .pointer (some ⟨m.length + 1, 0, none⟩)), (15, .int .i64 (max lf (mxc (fun i => tg w h s (r.lo true i) + tg w h s (r.hi true i)) k))), (17, .int .i64 (k + 1 : Nat))])
            ⟨_, [(0, .slice q1 h c1), (1, .slice q2 K.length c2), (5, .int .i64 (w : Nat)), (6, .int .i64 (h : Nat)), (9, .slice (some ⟨m.length + 0, 0, none⟩) (total w h) (total w h)), (10, .int .i64 (i + 1 : Nat)), (11, .int .i64 (j + 1 : Nat)), (12, .int .i64 (y : Nat)), (13, .int .i64 (x : Nat)), (14, .pointer (some ⟨m.length + 1, 0, none⟩)), (15, .int .i64 lf), (17, .int .i64 1)], _, (Or.inl ⟨rfl, (by repeat (first | exact trivial | (refine And.intro rfl ?_)))⟩), 0, rfl, by omega, rfl, by rw [show max lf (mxc (fun i => tg w h s (r.lo true i) + tg w h s (r.hi true i)) 0) = lf from by simp only [mxc]; omega]; rfl⟩ ?_
          rintro n t L ⟨k, rfl, hk1, rfl, rfl⟩
          rcases Nat.lt_or_ge (k + 1) (i + 1) with hkl | hkl
          · have o1 := hlo true (k + 1) (by omega) (by omega)
            have o2 := hhi true (k + 1) (by omega) (by omega)
            have y1 := hat _ o1
            have y2 := hat _ o2
            have n1 := fun M => hN M _ o1
            have n2 := fun M => hN M _ o2
            have f1 := hF ((r.lo true (k + 1)).at w h)
            have f2 := hF ((r.hi true (k + 1)).at w h)
            have hP1 := fun M => p1 M (k + 1)
            have hP2 := fun M => p2 M (k + 1) (by omega)
            have d1 : ∀ T : AM, Rd (m ++ (some { cells := iv s } :: T)) (m.length + 0) ((r.lo true (k + 1)).at w h) (.int .i64 (s.getD ((r.lo true (k + 1)).at w h) 0)) := fun T => Rd.new rfl (iv_get y1)
            have d2 : ∀ T : AM, Rd (m ++ (some { cells := iv s } :: T)) (m.length + 0) ((r.hi true (k + 1)).at w h) (.int .i64 (s.getD ((r.hi true (k + 1)).at w h) 0)) := fun T => Rd.new rfl (iv_get y2)
            have hmx : mxc (fun i => tg w h s (r.lo true i) + tg w h s (r.hi true i)) (k + 1) = max (mxc (fun i => tg w h s (r.lo true i) + tg w h s (r.hi true i)) k) (s.getD ((r.lo true (k + 1)).at w h) 0 + s.getD ((r.hi true (k + 1)).at w h) 0) := rfl
            rw [hsl] at y1 y2
            generalize mxc (fun i => tg w h s (r.lo true i) + tg w h s (r.hi true i)) k = X at *
            generalize (r.lo true (k + 1)).at w h = s1 at *
            generalize (r.hi true (k + 1)).at w h = s2 at *
            generalize (r.lo true (k + 1)).rc = g1 at *
            generalize (r.hi true (k + 1)).rc = g2 at *
            (repeat (first | (with_reducible refine AWo.cons ?_) | ((with_reducible refine Step.id ?_); first | ((with_reducible apply Step.move); exact rfl; exact rfl) | ((with_reducible apply Step.lss); exact rfl; exact rfl; exact rfl)) | (with_reducible refine AWo.nil ?_) | ((with_reducible apply AW.seq)) | ((with_reducible apply Then.n)) | ((fail_if_success (with_reducible refine AW.atL (id := 21) ?_)); ((with_reducible apply AW.regL))) | ((with_reducible apply AW.block)) | ((with_reducible apply AW.skip)) | ((with_reducible apply AW.condT); exact rfl; (focus ((simp only [decide_eq_true_eq, decide_eq_false_iff_not, Bool.not_eq_true', Bool.not_eq_false', Bool.not_true, Bool.not_false]; first | assumption | omega))))))
            refine AW.flat fit [(0, .slice q1 h c1), (1, .slice q2 K.length c2), (5, .int .i64 (w : Nat)), (6, .int .i64 (h : Nat)), (9, .slice (some ⟨m.length + 0, 0, none⟩) (total w h) (total w h)), (10, .int .i64 (i + 1 : Nat)), (11, .int .i64 (j + 1 : Nat)), (12, .int .i64 (y : Nat)), (13, .int .i64 (x : Nat)), (14, .pointer (some ⟨m.length + 1, 0, none⟩)), (15, .int .i64 (max lf X)), (17, .int .i64 (k + 1 : Nat))] [(0, .slice q1 h c1), (1, .slice q2 K.length c2), (5, .int .i64 (w : Nat)), (6, .int .i64 (h : Nat)), (9, .slice (some ⟨m.length + 0, 0, none⟩) (total w h) (total w h)), (10, .int .i64 (i + 1 : Nat)), (11, .int .i64 (j + 1 : Nat)), (12, .int .i64 (y : Nat)), (13, .int .i64 (x : Nat)), (14, .pointer (some ⟨m.length + 1, 0, none⟩)), (15, .int .i64 (max (max lf X) (s.getD s1 0 + s.getD s2 0))), (17, .int .i64 (k + 1 : Nat))] [0, 1, 5, 6, 9, 10, 11, 12, 13, 14, 15, 17] [[], [], [], [], [], [], [1, 0], [4, 3, 0, 0], [6, 0], [0], [], [], [], [], [], [1, 0, 7], [4, 3, 0, 0], [6, 0], [0], [9, 0], [19, 0], [0, 4, 20, 19, 18, 17, 16, 15, 14, 13, 12, 11, 10, 9, 8, 7, 6, 5, 4, 3, 2, 1, 0]] (by repeat (first | exact trivial | (refine And.intro rfl ?_))) rfl (by decide +kernel) ?_ ?_
            · (repeat (first | ((with_reducible refine Step.id ?_); first | ((with_reducible apply Step.move); exact rfl; exact rfl) | ((with_reducible apply Step.assign); exact rfl; exact rfl) | ((with_reducible apply Step.load); exact rfl; (focus (decide +kernel)); exact rfl; (focus (first | exact d1 _ | exact d2 _))) | ((with_reducible apply Step.loadL (n := 4)); exact rfl; (focus (decide +kernel)); (focus (decide +kernel)); exact rfl; (focus (exact RdL.new rfl rfl)); exact rfl; exact rfl) | ((with_reducible apply Step.ix1z); exact rfl; (focus (exact Sl.mk (by omega))); exact rfl; (focus (decide +kernel)); exact rfl; (focus (omega))) | ((with_reducible apply Step.add); exact rfl; exact rfl; (focus (omega)); exact rfl) | ((with_reducible apply Step.max); exact rfl; exact rfl; exact rfl) | ((with_reducible apply Step.callR fit); exact rfl; exact Tryd.func74; exact rfl; exact rfl; exact (hP1 _)) | ((with_reducible apply Step.callR fit); exact rfl; exact Tryd.func75; exact rfl; exact rfl; exact (hP2 _)) | ((with_reducible apply Step.callR fit); exact rfl; exact Tryd.func64; exact rfl; exact rfl; exact (n1 _)) | ((with_reducible apply Step.callR fit); exact rfl; exact Tryd.func64; exact rfl; exact rfl; exact (n2 _))) | (apply AWf.cons; exact rfl) | exact ⟨put_same _ _ _, rfl⟩ | ((with_reducible apply AWf.nil))))
              exact (by repeat (first | exact trivial | (refine And.intro rfl ?_)))
            intro t2 ht2
            refine InBlk.n ?_
            refine Then.n ?_
            refine AW.weak ht2 ?_
            (repeat (first | (with_reducible refine AWo.cons ?_) | ((with_reducible refine Step.id ?_); first | ((with_reducible apply Step.move); exact rfl; exact rfl) | ((with_reducible apply Step.assign); exact rfl; exact rfl) | ((with_reducible apply Step.add); exact rfl; exact rfl; (focus (omega)); exact rfl)) | (with_reducible refine AWo.nil ?_) | ((with_reducible apply Then.n)) | ((with_reducible apply AW.regL))))
            exact ⟨_, [(0, .slice q1 h c1), (1, .slice q2 K.length c2), (5, .int .i64 (w : Nat)), (6, .int .i64 (h : Nat)), (9, .slice (some ⟨m.length + 0, 0, none⟩) (total w h) (total w h)), (10, .int .i64 (i + 1 : Nat)), (11, .int .i64 (j + 1 : Nat)), (12, .int .i64 (y : Nat)), (13, .int .i64 (x : Nat)), (14, .pointer (some ⟨m.length + 1, 0, none⟩)), (15, .int .i64 (max (max lf X) (s.getD s1 0 + s.getD s2 0))), (17, .int .i64 (k + 1 + 1 : Nat))], _, by omega, (Or.inl ⟨rfl, (by repeat (first | exact trivial | (refine And.intro rfl ?_)))⟩), k + 1, rfl, by omega, rfl, by rw [hmx, ← Int.max_assoc]⟩
          have hktrue : k = (i + 1) - 1 := by omega
          rw [hktrue]
          have hcuttrue : mxc (fun i => tg w h s (r.lo true i) + tg w h s (r.hi true i)) ((i + 1) - 1) = cutM (tg w h s) r true := by unfold cutM; rw [hlentrue]
          rw [hcuttrue]
          clear hkl hk1 hktrue
          generalize cutM (tg w h s) r true = ca at *
          (repeat (first | (with_reducible refine AWo.cons ?_) | ((with_reducible refine Step.id ?_); first | ((with_reducible apply Step.move); exact rfl; exact rfl) | ((with_reducible apply Step.assign); exact rfl; exact rfl) | ((with_reducible apply Step.lss); exact rfl; exact rfl; exact rfl)) | (with_reducible refine AWo.nil ?_) | ((with_reducible apply AW.seq)) | ((with_reducible apply Then.n)) | ((with_reducible apply AW.regL)) | ((with_reducible apply AW.block)) | ((with_reducible apply AW.exit)) | ((with_reducible apply InBlk.hit)) | ((with_reducible apply Then.e)) | ((with_reducible apply AW.condF); exact rfl; (focus ((simp only [decide_eq_true_eq, decide_eq_false_iff_not, Bool.not_eq_true', Bool.not_eq_false', Bool.not_true, Bool.not_false]; first | assumption | omega))))))
          refine AW.loopT (fun n t L => ∃ k : Nat, n = (j + 1) - k ∧ k + 1 ≤ (j + 1) ∧ L = [some { cells := iv s }, some { cells := r.rc.cells }] ∧ t = [(0, .slice q1 h c1), (1, .slice q2 K.length c2), (5, .int .i64 (w : Nat)), (6, .int .i64 (h : Nat)), (9, .slice (some ⟨m.length + 0, 0, none⟩) (total w h) (total w h)), (10, .int .i64 (i + 1 : Nat)), (11, .int .i64 (j + 1 : Nat)), (12, .int .i64 (y : Nat)), (13, .int .i64 (x : Nat)), (14, .pointer (some ⟨m.length + 1, 0, none⟩)), (15, .int .i64 (max (max lf ca) (mxc (fun i => tg w h s (r.lo false i) + tg w h s (r.hi false i)) k))), (18, .int .i64 (k + 1 : Nat))])
            ⟨_, [(0, .slice q1 h c1), (1, .slice q2 K.length c2), (5, .int .i64 (w : Nat)), (6, .int .i64 (h : Nat)), (9, .slice (some ⟨m.length + 0, 0, none⟩) (total w h) (total w h)), (10, .int .i64 (i + 1 : Nat)), (11, .int .i64 (j + 1 : Nat)), (12, .int .i64 (y : Nat)), (13, .int .i64 (x : Nat)), (14, .pointer (some ⟨m.length + 1, 0, none⟩)), (15, .int .i64 (max lf ca)), (18, .int .i64 1)], _, (Or.inl ⟨rfl, (by repeat (first | exact trivial | (refine And.intro rfl ?_)))⟩), 0, rfl, by omega, rfl, by rw [show max (max lf ca) (mxc (fun i => tg w h s (r.lo false i) + tg w h s (r.hi false i)) 0) = (max lf ca) from by simp only [mxc]; omega]; rfl⟩ ?_
          rintro n t L ⟨k, rfl, hk1, rfl, rfl⟩
          rcases Nat.lt_or_ge (k + 1) (j + 1) with hkl | hkl
          · have o1 := hlo false (k + 1) (by omega) (by omega)
            have o2 := hhi false (k + 1) (by omega) (by omega)
            have y1 := hat _ o1
            have y2 := hat _ o2
            have n1 := fun M => hN M _ o1
            have n2 := fun M => hN M _ o2
            have f1 := hF ((r.lo false (k + 1)).at w h)
            have f2 := hF ((r.hi false (k + 1)).at w h)
            have hP1 := fun M => p3 M (k + 1)
            have hP2 := fun M => p4 M (k + 1) (by omega)
            have d1 : ∀ T : AM, Rd (m ++ (some { cells := iv s } :: T)) (m.length + 0) ((r.lo false (k + 1)).at w h) (.int .i64 (s.getD ((r.lo false (k + 1)).at w h) 0)) := fun T => Rd.new rfl (iv_get y1)
            have d2 : ∀ T : AM, Rd (m ++ (some { cells := iv s } :: T)) (m.length + 0) ((r.hi false (k + 1)).at w h) (.int .i64 (s.getD ((r.hi false (k + 1)).at w h) 0)) := fun T => Rd.new rfl (iv_get y2)
            have hmx : mxc (fun i => tg w h s (r.lo false i) + tg w h s (r.hi false i)) (k + 1) = max (mxc (fun i => tg w h s (r.lo false i) + tg w h s (r.hi false i)) k) (s.getD ((r.lo false (k + 1)).at w h) 0 + s.getD ((r.hi false (k + 1)).at w h) 0) := rfl
            rw [hsl] at y1 y2
            generalize mxc (fun i => tg w h s (r.lo false i) + tg w h s (r.hi false i)) k = X at *
            generalize (r.lo false (k + 1)).at w h = s1 at *
            generalize (r.hi false (k + 1)).at w h = s2 at *
            generalize (r.lo false (k + 1)).rc = g1 at *
            generalize (r.hi false (k + 1)).rc = g2 at *
            (repeat (first | (with_reducible refine AWo.cons ?_) | ((with_reducible refine Step.id ?_); first | ((with_reducible apply Step.move); exact rfl; exact rfl) | ((with_reducible apply Step.lss); exact rfl; exact rfl; exact rfl)) | (with_reducible refine AWo.nil ?_) | ((with_reducible apply AW.seq)) | ((with_reducible apply Then.n)) | ((fail_if_success (with_reducible refine AW.atL (id := 25) ?_)); ((with_reducible apply AW.regL))) | ((with_reducible apply AW.block)) | ((with_reducible apply AW.skip)) | ((with_reducible apply AW.condT); exact rfl; (focus ((simp only [decide_eq_true_eq, decide_eq_false_iff_not, Bool.not_eq_true', Bool.not_eq_false', Bool.not_true, Bool.not_false]; first | assumption | omega))))))
            refine AW.flat fit [(0, .slice q1 h c1), (1, .slice q2 K.length c2), (5, .int .i64 (w : Nat)), (6, .int .i64 (h : Nat)), (9, .slice (some ⟨m.length + 0, 0, none⟩) (total w h) (total w h)), (10, .int .i64 (i + 1 : Nat)), (11, .int .i64 (j + 1 : Nat)), (12, .int .i64 (y : Nat)), (13, .int .i64 (x : Nat)), (14, .pointer (some ⟨m.length + 1, 0, none⟩)), (15, .int .i64 (max (max lf ca) X)), (18, .int .i64 (k + 1 : Nat))] [(0, .slice q1 h c1), (1, .slice q2 K.length c2), (5, .int .i64 (w : Nat)), (6, .int .i64 (h : Nat)), (9, .slice (some ⟨m.length + 0, 0, none⟩) (total w h) (total w h)), (10, .int .i64 (i + 1 : Nat)), (11, .int .i64 (j + 1 : Nat)), (12, .int .i64 (y : Nat)), (13, .int .i64 (x : Nat)), (14, .pointer (some ⟨m.length + 1, 0, none⟩)), (15, .int .i64 (max (max (max lf ca) X) (s.getD s1 0 + s.getD s2 0))), (18, .int .i64 (k + 1 : Nat))] [0, 1, 5, 6, 9, 10, 11, 12, 13, 14, 15, 18] [[], [], [], [], [], [], [1, 0], [4, 3, 0, 0], [6, 0], [0], [], [], [], [], [], [1, 0, 7], [4, 3, 0, 0], [6, 0], [0], [9, 0], [19, 0], [0, 4, 20, 19, 18, 17, 16, 15, 14, 13, 12, 11, 10, 9, 8, 7, 6, 5, 4, 3, 2, 1, 0]] (by repeat (first | exact trivial | (refine And.intro rfl ?_))) rfl (by decide +kernel) ?_ ?_
            · (repeat (first | ((with_reducible refine Step.id ?_); first | ((with_reducible apply Step.move); exact rfl; exact rfl) | ((with_reducible apply Step.assign); exact rfl; exact rfl) | ((with_reducible apply Step.load); exact rfl; (focus (decide +kernel)); exact rfl; (focus (first | exact d1 _ | exact d2 _))) | ((with_reducible apply Step.loadL (n := 4)); exact rfl; (focus (decide +kernel)); (focus (decide +kernel)); exact rfl; (focus (exact RdL.new rfl rfl)); exact rfl; exact rfl) | ((with_reducible apply Step.ix1z); exact rfl; (focus (exact Sl.mk (by omega))); exact rfl; (focus (decide +kernel)); exact rfl; (focus (omega))) | ((with_reducible apply Step.add); exact rfl; exact rfl; (focus (omega)); exact rfl) | ((with_reducible apply Step.max); exact rfl; exact rfl; exact rfl) | ((with_reducible apply Step.callR fit); exact rfl; exact Tryd.func76; exact rfl; exact rfl; exact (hP1 _)) | ((with_reducible apply Step.callR fit); exact rfl; exact Tryd.func77; exact rfl; exact rfl; exact (hP2 _)) | ((with_reducible apply Step.callR fit); exact rfl; exact Tryd.func64; exact rfl; exact rfl; exact (n1 _)) | ((with_reducible apply Step.callR fit); exact rfl; exact Tryd.func64; exact rfl; exact rfl; exact (n2 _))) | (apply AWf.cons; exact rfl) | exact ⟨put_same _ _ _, rfl⟩ | ((with_reducible apply AWf.nil))))
              exact (by repeat (first | exact trivial | (refine And.intro rfl ?_)))
            intro t2 ht2
            refine InBlk.n ?_
            refine Then.n ?_
            refine AW.weak ht2 ?_
            (repeat (first | (with_reducible refine AWo.cons ?_) | ((with_reducible refine Step.id ?_); first | ((with_reducible apply Step.move); exact rfl; exact rfl) | ((with_reducible apply Step.assign); exact rfl; exact rfl) | ((with_reducible apply Step.add); exact rfl; exact rfl; (focus (omega)); exact rfl)) | (with_reducible refine AWo.nil ?_) | ((with_reducible apply Then.n)) | ((with_reducible apply AW.regL))))
            exact ⟨_, [(0, .slice q1 h c1), (1, .slice q2 K.length c2), (5, .int .i64 (w : Nat)), (6, .int .i64 (h : Nat)), (9, .slice (some ⟨m.length + 0, 0, none⟩) (total w h) (total w h)), (10, .int .i64 (i + 1 : Nat)), (11, .int .i64 (j + 1 : Nat)), (12, .int .i64 (y : Nat)), (13, .int .i64 (x : Nat)), (14, .pointer (some ⟨m.length + 1, 0, none⟩)), (15, .int .i64 (max (max (max lf ca) X) (s.getD s1 0 + s.getD s2 0))), (18, .int .i64 (k + 1 + 1 : Nat))], _, by omega, (Or.inl ⟨rfl, (by repeat (first | exact trivial | (refine And.intro rfl ?_)))⟩), k + 1, rfl, by omega, rfl, by rw [hmx, ← Int.max_assoc]⟩
          have hkfalse : k = (j + 1) - 1 := by omega
          rw [hkfalse]
          have hcutfalse : mxc (fun i => tg w h s (r.lo false i) + tg w h s (r.hi false i)) ((j + 1) - 1) = cutM (tg w h s) r false := by unfold cutM; rw [hlenfalse]
          rw [hcutfalse]
          clear hkl hk1 hkfalse
          (repeat (first | (with_reducible refine AWo.cons ?_) | ((with_reducible refine Step.id ?_); first | ((with_reducible apply Step.move); exact rfl; exact rfl) | ((with_reducible apply Step.assign); exact rfl; exact rfl) | ((with_reducible apply Step.loadL (n := 4)); exact rfl; (focus (decide +kernel)); (focus (decide +kernel)); exact rfl; (focus (exact RdL.new rfl rfl)); exact rfl; exact rfl) | ((with_reducible apply Step.ix1z); exact rfl; (focus (exact Sl.mk (by omega))); exact rfl; (focus (decide +kernel)); exact rfl; (focus (omega))) | ((with_reducible apply Step.add); exact rfl; exact rfl; (focus (omega)); exact rfl) | ((with_reducible apply Step.lss); exact rfl; exact rfl; exact rfl) | ((with_reducible apply Step.callR fit); exact rfl; exact Tryd.func64; exact rfl; exact rfl; exact (hNr _)) | ((with_reducible apply Step.store (k := 0)); exact rfl; exact rfl; exact rfl; exact rfl; (focus (decide +kernel)); exact rfl; exact rfl; (focus (first | omega | (simp [iv, bv]; done) | (simp [iv, bv]; omega))); (focus (first | (simp only [List.nil_append, List.cons_append, List.set_cons_zero, List.set_cons_succ, iv_set, bv_set, iv_rep, bv_rep]; done) | (simp only [List.nil_append, List.cons_append, List.set_cons_zero, List.set_cons_succ, iv_set, bv_set, iv_rep, bv_rep]; rfl) | rfl)))) | (with_reducible refine AWo.nil ?_) | ((with_reducible apply AW.seq)) | ((with_reducible apply Then.n)) | ((with_reducible apply AW.regL)) | ((with_reducible apply AW.exit)) | ((with_reducible apply InBlk.n)) | ((with_reducible apply InBlk.hit)) | ((with_reducible apply Then.e)) | ((with_reducible apply AW.condF); exact rfl; (focus ((simp only [decide_eq_true_eq, decide_eq_false_iff_not, Bool.not_eq_true', Bool.not_eq_false', Bool.not_true, Bool.not_false]; first | assumption | omega))))))
          exact ⟨_, [(0, .slice q1 h c1), (1, .slice q2 K.length c2), (5, .int .i64 (w : Nat)), (6, .int .i64 (h : Nat)), (9, .slice (some ⟨m.length + 0, 0, none⟩) (total w h) (total w h)), (10, .int .i64 (i + 1 : Nat)), (11, .int .i64 (j + 1 : Nat)), (12, .int .i64 (y : Nat)), (13, .int .i64 (x + 1 : Nat))], [some { cells := iv (bstep (leafM B K) w h r s) }], by omega, by rw [hbs]; exact (Back.trim rfl rfl (by repeat (first | exact CellsOk.nil | refine CellsOk.cons (by exact g0_iv _) ?_)) (by repeat (first | exact trivial | (refine And.intro ⟨rfl, by (first | exact Low.rid (by assumption) (by simp) | exact .int _ _ | exact .slice _ _ _ _ (by first | (simp; done) | omega | (simp; omega)))⟩ ?_)))), x + 1, rfl, by omega, by rw [hst], rfl⟩
        · obtain rfl : x = w - i := by omega
          (repeat (first | (with_reducible refine AWo.cons ?_) | ((with_reducible refine Step.id ?_); first | ((with_reducible apply Step.move); exact rfl; exact rfl) | ((with_reducible apply Step.assign); exact rfl; exact rfl) | ((with_reducible apply Step.addE); exact rfl; exact rfl; (focus (assumption)); (focus (omega)); exact rfl) | ((with_reducible apply Step.add); exact rfl; exact rfl; (focus (omega)); exact rfl) | ((with_reducible apply Step.leq); exact rfl; exact rfl; exact rfl)) | (with_reducible refine AWo.nil ?_) | ((with_reducible apply AW.seq)) | ((with_reducible apply Then.n)) | ((with_reducible apply AW.regL)) | ((with_reducible apply AW.exit)) | ((with_reducible apply InBlk.n)) | ((with_reducible apply InBlk.hit)) | ((with_reducible apply Then.e)) | ((with_reducible apply AW.condF); exact rfl; (focus ((simp only [decide_eq_true_eq, decide_eq_false_iff_not, Bool.not_eq_true', Bool.not_eq_false', Bool.not_true, Bool.not_false]; first | assumption | omega))))))
          exact ⟨_, [(0, .slice q1 h c1), (1, .slice q2 K.length c2), (5, .int .i64 (w : Nat)), (6, .int .i64 (h : Nat)), (9, .slice (some ⟨m.length + 0, 0, none⟩) (total w h) (total w h)), (10, .int .i64 (i + 1 : Nat)), (11, .int .i64 (j + 1 : Nat)), (12, .int .i64 (y + 1 : Nat))], _, by omega, (Or.inl ⟨rfl, (by repeat (first | exact trivial | (refine And.intro rfl ?_)))⟩), y + 1, rfl, by omega, by rw [fY, show w + 1 - (i + 1) = w - i by omega], rfl⟩
      · obtain rfl : y = h - j := by omega
        (repeat (first | (with_reducible refine AWo.cons ?_) | ((with_reducible refine Step.id ?_); first | ((with_reducible apply Step.move); exact rfl; exact rfl) | ((with_reducible apply Step.assign); exact rfl; exact rfl) | ((with_reducible apply Step.addE); exact rfl; exact rfl; (focus (assumption)); (focus (omega)); exact rfl) | ((with_reducible apply Step.add); exact rfl; exact rfl; (focus (omega)); exact rfl) | ((with_reducible apply Step.leq); exact rfl; exact rfl; exact rfl)) | (with_reducible refine AWo.nil ?_) | ((with_reducible apply AW.seq)) | ((with_reducible apply Then.n)) | ((with_reducible apply AW.regL)) | ((with_reducible apply AW.exit)) | ((with_reducible apply InBlk.n)) | ((with_reducible apply InBlk.hit)) | ((with_reducible apply Then.e)) | ((with_reducible apply AW.condF); exact rfl; (focus ((simp only [decide_eq_true_eq, decide_eq_false_iff_not, Bool.not_eq_true', Bool.not_eq_false', Bool.not_true, Bool.not_false]; first | assumption | omega))))))
        exact ⟨_, [(0, .slice q1 h c1), (1, .slice q2 K.length c2), (5, .int .i64 (w : Nat)), (6, .int .i64 (h : Nat)), (9, .slice (some ⟨m.length + 0, 0, none⟩) (total w h) (total w h)), (10, .int .i64 (i + 1 : Nat)), (11, .int .i64 (j + 1 + 1 : Nat))], _, by omega, (Or.inl ⟨rfl, (by repeat (first | exact trivial | (refine And.intro rfl ?_)))⟩), j + 1, rfl, by omega, by rw [fH, show h + 1 - (j + 1) = h - j by omega], rfl⟩
    · obtain rfl : j = h := by omega
      (repeat (first | (with_reducible refine AWo.cons ?_) | ((with_reducible refine Step.id ?_); first | ((with_reducible apply Step.move); exact rfl; exact rfl) | ((with_reducible apply Step.assign); exact rfl; exact rfl) | ((with_reducible apply Step.add); exact rfl; exact rfl; (focus (omega)); exact rfl) | ((with_reducible apply Step.leq); exact rfl; exact rfl; exact rfl)) | (with_reducible refine AWo.nil ?_) | ((with_reducible apply AW.seq)) | ((with_reducible apply Then.n)) | ((with_reducible apply AW.regL)) | ((with_reducible apply AW.exit)) | ((with_reducible apply InBlk.n)) | ((with_reducible apply InBlk.hit)) | ((with_reducible apply Then.e)) | ((with_reducible apply AW.condF); exact rfl; (focus ((simp only [decide_eq_true_eq, decide_eq_false_iff_not, Bool.not_eq_true', Bool.not_eq_false', Bool.not_true, Bool.not_false]; first | assumption | omega))))))
      exact ⟨_, [(0, .slice q1 j c1), (1, .slice q2 K.length c2), (5, .int .i64 (w : Nat)), (6, .int .i64 (j : Nat)), (9, .slice (some ⟨m.length + 0, 0, none⟩) (total w j) (total w j)), (10, .int .i64 (i + 1 + 1 : Nat))], _, by omega, (Or.inl ⟨rfl, (by repeat (first | exact trivial | (refine And.intro rfl ?_)))⟩), i + 1, rfl, by omega, rfl, rfl⟩
  · obtain rfl : i = w := by omega
    (repeat (first | (with_reducible refine AWo.cons ?_) | ((with_reducible refine Step.id ?_); first | ((with_reducible apply Step.move); exact rfl; exact rfl) | ((with_reducible apply Step.assign); exact rfl; exact rfl) | ((with_reducible apply Step.leq); exact rfl; exact rfl; exact rfl)) | (with_reducible refine AWo.nil ?_) | ((with_reducible apply AW.seq)) | ((with_reducible apply Then.n)) | ((with_reducible apply AW.regL)) | ((with_reducible apply AW.exit)) | ((with_reducible apply InBlk.hit)) | ((with_reducible apply Then.e)) | ((with_reducible apply AW.condF); exact rfl; (focus ((simp only [decide_eq_true_eq, decide_eq_false_iff_not, Bool.not_eq_true', Bool.not_eq_false', Bool.not_true, Bool.not_false]; first | assumption | omega))))))
    (refine AW.retB (l := [(4, _)]) (Or.inl ⟨rfl, (by repeat (first | exact trivial | (refine And.intro rfl ?_)))⟩) ?_; (repeat (first | refine Then.r ?_ | refine InBlk.r ?_)))
    exact ⟨_, rfl, rfl, rfl⟩
end Go.Proofs.YtibhgdglbillaaaDoor.Abs
namespace Go.Proofs.YtibhgdglbillaaaDoor.Abs
set_option linter.unusedSimpArgs false
set_option linter.unusedVariables false
open Go.RowKit
open Go.Proofs.YtibhgdglbillaaaDoor.Sim
open Go.Proofs
section
variable (leaf : R4 → Int) (w h : Nat) (t : List Int)
/-- The first k cuts hold. -/
def cutOk (r : R4) (d : Bool) : Nat → Bool
  | 0 => true
  | k + 1 => cutOk r d k && decide (tg w h t (r.lo d (k + 1)) + tg w h t (r.hi d (k + 1)) ≤ tg w h t r)
def okR (r : R4) : Bool := decide (leaf r ≤ tg w h t r) && cutOk w h t r true (r.len true - 1) && cutOk w h t r false (r.len false - 1)
def boundB : Bool := (t.all fun x => decide (0 ≤ x)) && ((allR w h h).all fun r => okR leaf w h t r)
end
section
variable {leaf : R4 → Int} {w h : Nat} {t : List Int}
theorem cutOk_iff {r : R4} {d : Bool} : ∀ {k : Nat}, cutOk w h t r d k = true ↔ ∀ i, 1 ≤ i → i ≤ k → tg w h t (r.lo d i) + tg w h t (r.hi d i) ≤ tg w h t r
  | 0 => ⟨fun _ i h1 h2 => by omega, fun _ => rfl⟩
  | k + 1 => by
    simp only [cutOk, Bool.and_eq_true, decide_eq_true_eq, cutOk_iff (k := k)]
    constructor
    · rintro ⟨h1, h2⟩ i h3 h4
      rcases Nat.lt_succ_iff_lt_or_eq.1 (Nat.lt_succ_of_le h4) with h5 | rfl
      · exact h1 i h3 (by omega)
      · exact h2
    · intro h
      exact ⟨fun i h3 h4 => h i h3 (by omega), h (k + 1) (by omega) (Nat.le_refl _)⟩
/-- All rectangles behind the walk hold. -/
def OkI (leaf : R4 → Int) (w h : Nat) (t : List Int) (D : R4 → Prop) (b : Bool) : Prop := b = true ↔ ∀ r, D r → okR leaf w h t r = true
theorem okStep_each : EachI (fun r b => b && okR leaf w h t r) w h (OkI leaf w h t) := by
  refine ⟨fun i j y x b hi hj hy hx H => ?_⟩
  have hr := step_ok hi hj hy hx
  rw [done_step (i := i) (j := j) (y := y) (x := x) hr rfl rfl rfl rfl]
  unfold OkI at *
  rw [Bool.and_eq_true, H]
  constructor
  · rintro ⟨h1, h2⟩ r (rfl | hd)
    · exact h2
    · exact h1 r hd
  · intro h
    exact ⟨fun r hd => h r (.inr hd), h _ (.inl rfl)⟩
theorem okFin : fW (fun r b => b && okR leaf w h t r) w h w true = (allR w h h).all fun r => okR leaf w h t r := by
  have := (okStep_each (leaf := leaf) (w := w) (h := h) (t := t)).all (s := true) (by unfold OkI; simp)
  unfold OkI at this
  rw [Bool.eq_iff_iff, this, List.all_eq_true]
  exact ⟨fun h r hr => h r (mem_all.1 hr), fun h r hr => h r (mem_all.2 hr)⟩
end
/-- Behind k of the two directions. -/
def okW (w h : Nat) (t : List Int) (r : R4) (w0 : Bool) : Nat → Bool
  | 0 => w0
  | k + 1 => okW w h t r w0 k && cutOk w h t r (k == 0) (r.len (k == 0) - 1)
/-- The memory in which block q holds some cells. -/
def MC (m : AM) (q : Nat) (c : List Value) : AM := m.set q (some { cells := c })
section
variable {m : AM} {q : Nat} {c c' : List Value}
theorem MC.len : (MC m q c).length = m.length := by simp [MC]
theorem MC.at (hq : q < m.length) : (MC m q c)[q]? = some (some { cells := c }) := by unfold MC; exact List.getElem?_set_self hq
theorem MC.ne {a : Nat} (h : a ≠ q) : (MC m q c)[a]? = m[a]? := by unfold MC; exact List.getElem?_set_ne (fun e => h e.symm)
theorem MC.set (hq : q < m.length) (T : AM) : (MC m q c ++ T).set q (some { cells := c' }) = MC m q c' ++ T := by
  unfold MC
  rw [List.set_append_left _ _ (by simpa using hq), List.set_set]
theorem MC.rd {a o : Nat} {x : Value} (h : a ≠ q) (hr : Rd m a o x) : Rd (MC m q c) a o x := by
  obtain ⟨b, h1, h2⟩ := hr
  exact ⟨b, by rw [MC.ne h]; exact h1, h2⟩
theorem MC.ints {v : Value} {l : List Int} {m1 N : AM} (hm : m = m1 ++ N) (hq1 : m1.length ≤ q) (h : Ints m1 v l) : Ints (MC m q c) v l := by
  subst hm
  obtain ⟨N', hN'⟩ := set_high (N := N) hq1 (some { cells := c })
  unfold MC
  rw [hN']
  exact h.old _
/-- A turned block of flat cells: what may be let go behind it. -/
theorem MC.cut (hq : q < m.length) (hg : ∀ x ∈ c', g0 x = true) (T X : AM) (hX : ∀ b, some b ∈ X → isMapK b.kind = false ∧ ∀ x ∈ b.cells, g0 x = true) (n j : Nat) (b : Blk) (h : (MC m q c' ++ (T ++ X))[j]? = some (some b)) :
    (j < (MC m q c ++ T).length ∧ (MC m q c ++ T)[j]? = some (some b)) ∨ (isMapK b.kind = false ∧ ∀ x ∈ b.cells, Ren rid n x x) := by
  have e : (MC m q c').length = (MC m q c).length := by rw [MC.len, MC.len]
  rcases Nat.lt_or_ge j (MC m q c').length with hj | hj
  · rw [List.getElem?_append_left hj] at h
    by_cases ej : j = q
    · subst ej
      rw [MC.at hq] at h
      simp only [Option.some.injEq] at h
      subst h
      exact .inr ⟨rfl, fun x hx => Ren.of_g0 (hg x hx)⟩
    · rw [MC.ne ej] at h
      refine .inl ⟨by rw [List.length_append]; omega, ?_⟩
      rw [List.getElem?_append_left (by omega), MC.ne ej]
      exact h
  · rw [List.getElem?_append_right hj] at h
    rcases Nat.lt_or_ge (j - (MC m q c').length) T.length with hj2 | hj2
    · rw [List.getElem?_append_left hj2] at h
      refine .inl ⟨by rw [List.length_append]; omega, ?_⟩
      rw [List.getElem?_append_right (by omega), ← e]
      exact h
    · rw [List.getElem?_append_right hj2] at h
      obtain ⟨h1, h2⟩ := hX b (List.mem_of_getElem? h)
      exact .inr ⟨h1, fun x hx => Ren.of_g0 (h2 x hx)⟩
end
end Go.Proofs.YtibhgdglbillaaaDoor.Abs
namespace Go.Proofs.YtibhgdglbillaaaDoor.Abs
set_option linter.unusedSimpArgs false
set_option linter.unusedVariables false
open Go.RowKit
open Go.Proofs.YtibhgdglbillaaaDoor.Sim
open Go.Proofs
def rvc (l : List R4) : List Value := l.flatMap fun r => r.rc.cells
theorem rvc_len (l : List R4) : (rvc l).length = l.length * 4 := by
  induction l with
  | nil => rfl
  | cons k l ih =>
    have : rvc (k :: l) = k.rc.cells ++ rvc l := rfl
    rw [this, List.length_append, ih]
    simp [Rc.cells]
    omega
theorem rvc_snoc (l : List R4) (k : R4) : rvc (l ++ [k]) = rvc l ++ k.rc.cells := by simp [rvc]
theorem rvc_get : ∀ (l : List R4) (i : Nat) (r : R4), l[i]? = some r → ∀ (j : Nat) (v : Value), r.rc.cells[j]? = some v → (rvc l)[i * 4 + j]? = some v
  | [], i, r, hi, _, _, _ => by simp at hi
  | k :: l, 0, r, hi, j, v, hj => by
    simp only [List.getElem?_cons_zero, Option.some.injEq] at hi
    subst hi
    have : rvc (k :: l) = k.rc.cells ++ rvc l := rfl
    rw [this, Nat.zero_mul, Nat.zero_add, List.getElem?_append_left (List.getElem?_eq_some_iff.1 hj).1]
    exact hj
  | k :: l, i + 1, r, hi, j, v, hj => by
    have e : rvc (k :: l) = k.rc.cells ++ rvc l := rfl
    have hl : k.rc.cells.length = 4 := rfl
    rw [e, List.getElem?_append_right (by omega), hl, show (i + 1) * 4 + j - 4 = i * 4 + j by omega]
    exact rvc_get l i r (by simpa using hi) j v hj
theorem g0_rvc (l : List R4) : ∀ v ∈ rvc l, g0 v = true := fun v hv => by
  simp only [rvc, List.mem_flatMap] at hv
  obtain ⟨k, _, hk⟩ := hv
  simp [Rc.cells] at hk
  rcases hk with rfl | rfl | rfl | rfl <;> rfl
theorem allB_n (x y a n : Nat) : (allB x y a n).length = n := by simp [allB]
theorem allA_n {h : Nat} (hh : h ≤ 16) (x y : Nat) : ∀ n, (allA h x y n).length ≤ n * 16
  | 0 => by simp [allA]
  | n + 1 => by
    have := allA_n hh x y n
    rw [allA_succ, List.length_append, allB_n]; omega
theorem allX_n {w h : Nat} (hw : w ≤ 16) (hh : h ≤ 16) (y : Nat) : ∀ n, (allX w h y n).length ≤ n * 256
  | 0 => by simp [allX]
  | n + 1 => by
    have := allX_n hw hh y n
    have := allA_n hh n y (w - n)
    rw [allX_succ, List.length_append]; omega
theorem allR_n {w h : Nat} (hw : w ≤ 16) (hh : h ≤ 16) : ∀ n, (allR w h n).length ≤ n * 4096
  | 0 => by simp [allR]
  | n + 1 => by
    have := allR_n hw hh n
    have := allX_n hw hh n w
    rw [allR_succ, List.length_append]; omega
theorem bs145 {m : AM} {k : Nat} {a b c d : Int} : abuildSlice Tryd.prog m k 145 1 [(0, .agg #[.int .i64 a, .int .i64 b, .int .i64 c, .int .i64 d])] = some (.slice (some ⟨k, 0, none⟩) 1 1, m.set k (some { cells := [.int .i64 a, .int .i64 b, .int .i64 c, .int .i64 d] })) := by kernel_rfl
theorem el145 : elemB Tryd.prog 145 = some (23, 4, 32, #[.int .i64 0, .int .i64 0, .int .i64 0, .int .i64 0]) := by kernel_rfl
theorem un145 : Tryd.prog.underlying 145 = some (.slice 23) := by kernel_rfl
set_option maxHeartbeats 4000000 in
set_option maxRecDepth 100000 in
theorem All_ok {m : AM} {w h : Nat} (hw : w ≤ 16) (hh : h ≤ 16) : ACall Tryd.prog 103 #[.int .i64 (w : Nat), .int .i64 (h : Nat)] m (NewG (rvc (allR w h h)) 4 (allR w h h).length m) := by
  refine ACall.start Tryd.func103 rfl rfl ?_
  (repeat (first | (with_reducible refine AWo.cons ?_) | ((with_reducible refine Step.id ?_); first | ((with_reducible apply Step.move); exact rfl; exact rfl) | ((with_reducible apply Step.assign); exact rfl; exact rfl)) | (with_reducible refine AWo.nil ?_) | ((with_reducible apply AW.seq)) | ((with_reducible apply Then.n)) | ((with_reducible apply AW.regL)) | ((with_reducible apply AW.block))))
  refine AW.loopT (fun n t L => ∃ y : Nat, n = h - y ∧ y ≤ h ∧ L = [gb (rvc (allR w h y)) 4] ∧
    t = [(0, .int .i64 (w : Nat)), (1, .int .i64 (h : Nat)), (5, gv (m.length + 0) (allR w h y).length), (10, .int .i64 (h : Nat)), (11, .int .i64 (y : Nat))])
    ⟨_, _, [none], (Back.padC rfl (by repeat (first | exact trivial | (refine And.intro ⟨rfl, by (first | exact .int _ _ | exact Ren.of_gv (by first | (simp; done) | omega | (simp; omega)))⟩ ?_))) (by repeat (exact CellsP.nil))), 0, rfl, Nat.zero_le _, rfl, rfl⟩ ?_
  rintro n t L ⟨y, rfl, hy, rfl, rfl⟩
  have k1 := allR_n hw hh y
  rcases Nat.lt_or_ge y h with hyl | hyg
  · have z0 : allR w h y ++ allX w h y 0 = allR w h y := by simp [allX]
    (repeat (first | (with_reducible refine AWo.cons ?_) | ((with_reducible refine Step.id ?_); first | ((with_reducible apply Step.move); exact rfl; exact rfl) | ((with_reducible apply Step.assign); exact rfl; exact rfl) | ((with_reducible apply Step.lss); exact rfl; exact rfl; exact rfl)) | (with_reducible refine AWo.nil ?_) | ((with_reducible apply AW.seq)) | ((with_reducible apply Then.n)) | ((with_reducible apply AW.regL)) | ((with_reducible apply AW.block)) | ((with_reducible apply AW.skip)) | ((with_reducible apply AW.condT); exact rfl; (focus ((simp only [decide_eq_true_eq, decide_eq_false_iff_not, Bool.not_eq_true', Bool.not_eq_false', Bool.not_true, Bool.not_false]; first | assumption | omega))))))
    refine AW.loopT (fun n t L => ∃ x : Nat, n = w - x ∧ x ≤ w ∧ L = [gb (rvc (allR w h y ++ allX w h y x)) 4] ∧
      t = [(0, .int .i64 (w : Nat)), (1, .int .i64 (h : Nat)), (5, gv (m.length + 0) (allR w h y ++ allX w h y x).length), (6, .int .i64 (y : Nat)), (10, .int .i64 (h : Nat)), (11, .int .i64 (y : Nat)), (14, .int .i64 (w : Nat)), (15, .int .i64 (x : Nat))])
      ⟨_, [(0, .int .i64 (w : Nat)), (1, .int .i64 (h : Nat)), (5, gv (m.length + 0) (allR w h y).length), (6, .int .i64 (y : Nat)), (10, .int .i64 (h : Nat)), (11, .int .i64 (y : Nat)), (14, .int .i64 (w : Nat)), (15, .int .i64 0)], _, (Or.inl ⟨rfl, (by repeat (first | exact trivial | (refine And.intro rfl ?_)))⟩), 0, rfl, Nat.zero_le _, by rw [z0], by rw [z0]; rfl⟩ ?_
    rintro n t L ⟨x, rfl, hx, rfl, rfl⟩
    have k2 := allX_n hw hh y x
    rcases Nat.lt_or_ge x w with hxl | hxg
    · have z1 : allR w h y ++ allX w h y x ++ allA h x y 0 = allR w h y ++ allX w h y x := by simp [allA]
      (repeat (first | (with_reducible refine AWo.cons ?_) | ((with_reducible refine Step.id ?_); first | ((with_reducible apply Step.move); exact rfl; exact rfl) | ((with_reducible apply Step.assign); exact rfl; exact rfl) | ((with_reducible apply Step.lss); exact rfl; exact rfl; exact rfl)) | (with_reducible refine AWo.nil ?_) | ((with_reducible apply AW.seq)) | ((with_reducible apply Then.n)) | ((with_reducible apply AW.regL)) | ((with_reducible apply AW.block)) | ((with_reducible apply AW.skip)) | ((with_reducible apply AW.condT); exact rfl; (focus ((simp only [decide_eq_true_eq, decide_eq_false_iff_not, Bool.not_eq_true', Bool.not_eq_false', Bool.not_true, Bool.not_false]; first | assumption | omega))))))
      refine AW.loopT (fun n t L => ∃ a : Nat, n = w - x - a ∧ x + a ≤ w ∧ L = [gb (rvc (allR w h y ++ allX w h y x ++ allA h x y a)) 4] ∧
        t = [(0, .int .i64 (w : Nat)), (1, .int .i64 (h : Nat)), (5, gv (m.length + 0) (allR w h y ++ allX w h y x ++ allA h x y a).length), (6, .int .i64 (y : Nat)), (7, .int .i64 (x : Nat)), (8, .int .i64 (a + 1 : Nat)), (10, .int .i64 (h : Nat)), (11, .int .i64 (y : Nat)), (14, .int .i64 (w : Nat)), (15, .int .i64 (x : Nat))])
        ⟨_, [(0, .int .i64 (w : Nat)), (1, .int .i64 (h : Nat)), (5, gv (m.length + 0) (allR w h y ++ allX w h y x).length), (6, .int .i64 (y : Nat)), (7, .int .i64 (x : Nat)), (8, .int .i64 1), (10, .int .i64 (h : Nat)), (11, .int .i64 (y : Nat)), (14, .int .i64 (w : Nat)), (15, .int .i64 (x : Nat))], _, (Or.inl ⟨rfl, (by repeat (first | exact trivial | (refine And.intro rfl ?_)))⟩), 0, rfl, by omega, by rw [z1], by rw [z1]; rfl⟩ ?_
      rintro n t L ⟨a, rfl, ha, rfl, rfl⟩
      have k3 := allA_n hh x y a
      have e1 : (x : Int) + ((a + 1 : Nat) : Int) = ((x + (a + 1) : Nat) : Int) := by omega
      rcases Nat.lt_or_ge (x + a) w with hal | hag
      · have z2 : allR w h y ++ allX w h y x ++ allA h x y a ++ allB x y (a + 1) 0 = allR w h y ++ allX w h y x ++ allA h x y a := by simp [allB]
        (repeat (first | (with_reducible refine AWo.cons ?_) | ((with_reducible refine Step.id ?_); first | ((with_reducible apply Step.move); exact rfl; exact rfl) | ((with_reducible apply Step.assign); exact rfl; exact rfl) | ((with_reducible apply Step.addE); exact rfl; exact rfl; (focus (assumption)); (focus (omega)); exact rfl) | ((with_reducible apply Step.leq); exact rfl; exact rfl; exact rfl)) | (with_reducible refine AWo.nil ?_) | ((with_reducible apply AW.seq)) | ((with_reducible apply Then.n)) | ((with_reducible apply AW.regL)) | ((with_reducible apply AW.block)) | ((with_reducible apply AW.skip)) | ((with_reducible apply AW.condT); exact rfl; (focus ((simp only [decide_eq_true_eq, decide_eq_false_iff_not, Bool.not_eq_true', Bool.not_eq_false', Bool.not_true, Bool.not_false]; first | assumption | omega))))))
        refine AW.loopT (fun n t L => ∃ b : Nat, n = h - y - b ∧ y + b ≤ h ∧ L = [gb (rvc (allR w h y ++ allX w h y x ++ allA h x y a ++ allB x y (a + 1) b)) 4] ∧
          t = [(0, .int .i64 (w : Nat)), (1, .int .i64 (h : Nat)), (5, gv (m.length + 0) (allR w h y ++ allX w h y x ++ allA h x y a ++ allB x y (a + 1) b).length), (6, .int .i64 (y : Nat)), (7, .int .i64 (x : Nat)), (8, .int .i64 (a + 1 : Nat)), (9, .int .i64 (b + 1 : Nat)), (10, .int .i64 (h : Nat)), (11, .int .i64 (y : Nat)), (14, .int .i64 (w : Nat)), (15, .int .i64 (x : Nat))])
          ⟨_, [(0, .int .i64 (w : Nat)), (1, .int .i64 (h : Nat)), (5, gv (m.length + 0) (allR w h y ++ allX w h y x ++ allA h x y a).length), (6, .int .i64 (y : Nat)), (7, .int .i64 (x : Nat)), (8, .int .i64 (a + 1 : Nat)), (9, .int .i64 1), (10, .int .i64 (h : Nat)), (11, .int .i64 (y : Nat)), (14, .int .i64 (w : Nat)), (15, .int .i64 (x : Nat))], _, (Or.inl ⟨rfl, (by repeat (first | exact trivial | (refine And.intro rfl ?_)))⟩), 0, rfl, by omega, by rw [z2], by rw [z2]; rfl⟩ ?_
        rintro n t L ⟨b, rfl, hb, rfl, rfl⟩
        have k4 := allB_n x y (a + 1) b
        have e2 : (y : Int) + ((b + 1 : Nat) : Int) = ((y + (b + 1) : Nat) : Int) := by omega
        have kt : (allR w h y ++ allX w h y x ++ allA h x y a ++ allB x y (a + 1) b).length ≤ 100000 := by simp only [List.length_append]; omega
        have hcc : rvc (allR w h y ++ allX w h y x ++ allA h x y a ++ allB x y (a + 1) (b + 1)) = rvc (allR w h y ++ allX w h y x ++ allA h x y a ++ allB x y (a + 1) b) ++ [.int .i64 (x : Nat), .int .i64 (y : Nat), .int .i64 (a + 1 : Nat), .int .i64 (b + 1 : Nat)] := by
          rw [allB_succ, ← List.append_assoc, rvc_snoc]; rfl
        have hnn : (allR w h y ++ allX w h y x ++ allA h x y a ++ allB x y (a + 1) (b + 1)).length = (allR w h y ++ allX w h y x ++ allA h x y a ++ allB x y (a + 1) b).length + 1 := by
          rw [allB_succ, ← List.append_assoc, List.length_append]; rfl
        have hg0 := g0_rvc (allR w h y ++ allX w h y x ++ allA h x y a ++ allB x y (a + 1) (b + 1))
        rw [hcc] at hg0
        have hpl := rvc_len (allR w h y ++ allX w h y x ++ allA h x y a ++ allB x y (a + 1) b)
        rcases Nat.lt_or_ge (y + b) h with hbl | hbg
        · generalize (allR w h y ++ allX w h y x ++ allA h x y a ++ allB x y (a + 1) b) = P at *
          generalize hN : P.length = N at *
          (repeat (first | (with_reducible refine AWo.cons ?_) | ((with_reducible refine Step.id ?_); first | ((with_reducible apply Step.move); exact rfl; exact rfl) | ((with_reducible apply Step.addE); exact rfl; exact rfl; (focus (assumption)); (focus (omega)); exact rfl) | ((with_reducible apply Step.leq); exact rfl; exact rfl; exact rfl) | ((with_reducible apply Step.buildS 1); exact rfl; exact rfl; exact (fun _ _ => bs145); exact rfl; (focus (first | (simp only [List.nil_append, List.cons_append, List.set_cons_zero, List.set_cons_succ, iv_set, bv_set, iv_rep, bv_rep]; done) | (simp only [List.nil_append, List.cons_append, List.set_cons_zero, List.set_cons_succ, iv_set, bv_set, iv_rep, bv_rep]; rfl) | rfl))) | ((with_reducible apply Step.build); exact rfl; exact bl23; exact rfl)) | (with_reducible refine AWo.nil ?_) | ((with_reducible apply AW.seq)) | ((with_reducible apply Then.n)) | ((with_reducible apply AW.regL)) | ((with_reducible apply AW.block)) | ((with_reducible apply AW.skip)) | ((with_reducible apply AW.condT); exact rfl; (focus ((simp only [decide_eq_true_eq, decide_eq_false_iff_not, Bool.not_eq_true', Bool.not_eq_false', Bool.not_true, Bool.not_false]; first | assumption | omega))))))
          ((with_reducible apply Step.appG (k := 2) (q := 0) (r := 1) (n := N) (xl := 1)); exact rfl; exact rfl; exact rfl; exact el145; exact un145; exact rfl; exact rfl; exact rfl; exact hpl; exact rfl; exact rfl; (focus (kernel_rfl)); (focus (omega)); exact rfl; (focus (first | (simp only [List.nil_append, List.cons_append, List.set_cons_zero, List.set_cons_succ, iv_set, bv_set, iv_rep, bv_rep]; done) | (simp only [List.nil_append, List.cons_append, List.set_cons_zero, List.set_cons_succ, iv_set, bv_set, iv_rep, bv_rep]; rfl) | rfl)))
          (repeat (first | (with_reducible refine AWo.cons ?_) | ((with_reducible refine Step.id ?_); first | ((with_reducible apply Step.move); exact rfl; exact rfl) | ((with_reducible apply Step.assign); exact rfl; exact rfl) | ((with_reducible apply Step.add); exact rfl; exact rfl; (focus (omega)); exact rfl)) | (with_reducible refine AWo.nil ?_) | ((with_reducible apply Then.n)) | ((with_reducible apply AW.regL)) | ((with_reducible apply InBlk.n))))
          exact ⟨_, [(0, .int .i64 (w : Nat)), (1, .int .i64 (h : Nat)), (5, .slice (some ⟨m.length + 0, 0, none⟩) (N + 1) (N + 1)), (6, .int .i64 (y : Nat)), (7, .int .i64 (x : Nat)), (8, .int .i64 (a + 1 : Nat)), (9, .int .i64 (b + 1 + 1 : Nat)), (10, .int .i64 (h : Nat)), (11, .int .i64 (y : Nat)), (14, .int .i64 (w : Nat)), (15, .int .i64 (x : Nat))], [some { cells := rvc P ++ [.int .i64 (x : Nat), .int .i64 (y : Nat), .int .i64 (a + 1 : Nat), .int .i64 (b + 1 : Nat)], kind := .grow, size := 4 }], by omega, (Back.mv 0 2 rfl rfl rfl rfl (by intro j b hj h; rcases j with _ | _ | _ | _ | _ | _ | j <;> simp_all) (by repeat (first | exact CellsOk.nil | refine CellsOk.cons (by assumption) ?_)) (by repeat (first | exact trivial | (refine And.intro ⟨_, rfl, by (first | exact .int _ _ | exact Ren.slice_mv (by first | (simp; done) | omega | (simp; omega)))⟩ ?_)))), b + 1, rfl, by omega, by rw [hcc, gb_pos (by simp)], by rw [hnn, gv_pos (by omega)]⟩
        · obtain rfl : b = h - y := by omega
          (repeat (first | (with_reducible refine AWo.cons ?_) | ((with_reducible refine Step.id ?_); first | ((with_reducible apply Step.move); exact rfl; exact rfl) | ((with_reducible apply Step.assign); exact rfl; exact rfl) | ((with_reducible apply Step.addE); exact rfl; exact rfl; (focus (assumption)); (focus (omega)); exact rfl) | ((with_reducible apply Step.add); exact rfl; exact rfl; (focus (omega)); exact rfl) | ((with_reducible apply Step.leq); exact rfl; exact rfl; exact rfl)) | (with_reducible refine AWo.nil ?_) | ((with_reducible apply AW.seq)) | ((with_reducible apply Then.n)) | ((with_reducible apply AW.regL)) | ((with_reducible apply AW.exit)) | ((with_reducible apply InBlk.n)) | ((with_reducible apply InBlk.hit)) | ((with_reducible apply Then.e)) | ((with_reducible apply AW.condF); exact rfl; (focus ((simp only [decide_eq_true_eq, decide_eq_false_iff_not, Bool.not_eq_true', Bool.not_eq_false', Bool.not_true, Bool.not_false]; first | assumption | omega))))))
          exact ⟨_, [(0, .int .i64 (w : Nat)), (1, .int .i64 (h : Nat)), (5, gv (m.length + 0) (allR w h y ++ allX w h y x ++ allA h x y a ++ allB x y (a + 1) (h - y)).length), (6, .int .i64 (y : Nat)), (7, .int .i64 (x : Nat)), (8, .int .i64 (a + 1 + 1 : Nat)), (10, .int .i64 (h : Nat)), (11, .int .i64 (y : Nat)), (14, .int .i64 (w : Nat)), (15, .int .i64 (x : Nat))], _, by omega, (Or.inl ⟨rfl, (by repeat (first | exact trivial | (refine And.intro rfl ?_)))⟩), a + 1, rfl, by omega, by rw [allA_succ, ← List.append_assoc], by rw [allA_succ, ← List.append_assoc]⟩
      · obtain rfl : a = w - x := by omega
        (repeat (first | (with_reducible refine AWo.cons ?_) | ((with_reducible refine Step.id ?_); first | ((with_reducible apply Step.move); exact rfl; exact rfl) | ((with_reducible apply Step.addE); exact rfl; exact rfl; (focus (assumption)); (focus (omega)); exact rfl) | ((with_reducible apply Step.add); exact rfl; exact rfl; (focus (omega)); exact rfl) | ((with_reducible apply Step.leq); exact rfl; exact rfl; exact rfl)) | (with_reducible refine AWo.nil ?_) | ((with_reducible apply AW.seq)) | ((with_reducible apply Then.n)) | ((with_reducible apply AW.regL)) | ((with_reducible apply AW.exit)) | ((with_reducible apply InBlk.n)) | ((with_reducible apply InBlk.hit)) | ((with_reducible apply Then.e)) | ((with_reducible apply AW.condF); exact rfl; (focus ((simp only [decide_eq_true_eq, decide_eq_false_iff_not, Bool.not_eq_true', Bool.not_eq_false', Bool.not_true, Bool.not_false]; first | assumption | omega))))))
        exact ⟨_, [(0, .int .i64 (w : Nat)), (1, .int .i64 (h : Nat)), (5, gv (m.length + 0) (allR w h y ++ allX w h y x ++ allA h x y (w - x)).length), (6, .int .i64 (y : Nat)), (10, .int .i64 (h : Nat)), (11, .int .i64 (y : Nat)), (14, .int .i64 (w : Nat)), (15, .int .i64 (x + 1 : Nat))], _, by omega, (Or.inl ⟨rfl, (by repeat (first | exact trivial | (refine And.intro rfl ?_)))⟩), x + 1, rfl, by omega, by rw [allX_succ, ← List.append_assoc], by rw [allX_succ, ← List.append_assoc]⟩
    · obtain rfl : x = w := by omega
      (repeat (first | (with_reducible refine AWo.cons ?_) | ((with_reducible refine Step.id ?_); first | ((with_reducible apply Step.move); exact rfl; exact rfl) | ((with_reducible apply Step.add); exact rfl; exact rfl; (focus (omega)); exact rfl) | ((with_reducible apply Step.lss); exact rfl; exact rfl; exact rfl)) | (with_reducible refine AWo.nil ?_) | ((with_reducible apply AW.seq)) | ((with_reducible apply Then.n)) | ((with_reducible apply AW.regL)) | ((with_reducible apply AW.exit)) | ((with_reducible apply InBlk.n)) | ((with_reducible apply InBlk.hit)) | ((with_reducible apply Then.e)) | ((with_reducible apply AW.condF); exact rfl; (focus ((simp only [decide_eq_true_eq, decide_eq_false_iff_not, Bool.not_eq_true', Bool.not_eq_false', Bool.not_true, Bool.not_false]; first | assumption | omega))))))
      exact ⟨_, [(0, .int .i64 (x : Nat)), (1, .int .i64 (h : Nat)), (5, gv (m.length + 0) (allR x h y ++ allX x h y x).length), (10, .int .i64 (h : Nat)), (11, .int .i64 (y + 1 : Nat))], _, by omega, (Or.inl ⟨rfl, (by repeat (first | exact trivial | (refine And.intro rfl ?_)))⟩), y + 1, rfl, by omega, by rw [allR_succ], by rw [allR_succ]⟩
  · obtain rfl : y = h := by omega
    (repeat (first | (with_reducible refine AWo.cons ?_) | ((with_reducible refine Step.id ?_); first | ((with_reducible apply Step.move); exact rfl; exact rfl) | ((with_reducible apply Step.assign); exact rfl; exact rfl) | ((with_reducible apply Step.lss); exact rfl; exact rfl; exact rfl)) | (with_reducible refine AWo.nil ?_) | ((with_reducible apply AW.seq)) | ((with_reducible apply Then.n)) | ((with_reducible apply AW.regL)) | ((with_reducible apply AW.exit)) | ((with_reducible apply InBlk.hit)) | ((with_reducible apply Then.e)) | ((with_reducible apply AW.condF); exact rfl; (focus ((simp only [decide_eq_true_eq, decide_eq_false_iff_not, Bool.not_eq_true', Bool.not_eq_false', Bool.not_true, Bool.not_false]; first | assumption | omega))))))
    (refine AW.retB (l := [(4, _)]) (Or.inl ⟨rfl, (by repeat (first | exact trivial | (refine And.intro rfl ?_)))⟩) ?_; (repeat (first | refine Then.r ?_ | refine InBlk.r ?_)))
    exact ⟨_, rfl, rfl, rfl⟩
end Go.Proofs.YtibhgdglbillaaaDoor.Abs
namespace Go.Proofs.YtibhgdglbillaaaDoor.Abs
set_option linter.unusedSimpArgs false
set_option linter.unusedVariables false
open Go.RowKit
open Go.Proofs.YtibhgdglbillaaaDoor.Sim
open Go.Proofs
set_option maxHeartbeats 8000000 in
set_option maxRecDepth 100000 in
theorem checkc_ok {m1 m T : AM} {p q a3 a4 : Nat} {tv : Value} {t : List Int} {B : Brd} {K : List Kd} (hm : ∃ N, m = m1 ++ N) (hB : BoardAt m1 p B K) (hg : goodB B K = true) (hq1 : m1.length ≤ q) (hq : q < m.length)
    (h3 : Rd m a3 0 tv) (h4 : Rd m a4 0 (.pointer (some ⟨p, 0, none⟩))) (n3 : a3 ≠ q) (n4 : a4 ≠ q) (ht : Ints m1 tv t) (hl : t.length = total (bw B) (bh B)) (hi : ∀ i, 0 ≤ t.getD i 0 ∧ t.getD i 0 ≤ 9223372036854775807)
    {r : R4} (hr : r.ok (bw B) (bh B)) (b : Bool) :
    ACall Tryd.prog 79 #[r.rc.v, .int .i64 (r.at (bw B) (bh B) : Nat), .pointer (some ⟨q, 0, none⟩), .pointer (some ⟨a3, 0, none⟩), .pointer (some ⟨a4, 0, none⟩)] (MC m q [.bool b] ++ T)
      (Ret (.tuple #[]) (MC m q [.bool (b && okR (leafM B K) (bw B) (bh B) t r)] ++ T)) := by
  have hgb : boardB B = true := by simp only [goodB, Bool.and_eq_true] at hg; exact hg.1
  have hin := good_in hgb
  have hrl := hr
  simp only [R4.ok] at hrl
  have hat := fun (r' : R4) (h : r'.ok (bw B) (bh B)) => at_lt hin.2.2.2 hin.2.1 h
  rw [← hl] at hat
  have hBv : ∀ c T', BoardAt (MC m q c ++ T') p B K := fun u T' => by
    obtain ⟨N, rfl⟩ := hm
    obtain ⟨N', hN'⟩ := set_high (N := N) hq1 (some { cells := u })
    unfold MC
    rw [hN', List.append_assoc]
    exact hB.old _
  have hIv : ∀ c T', Ints (MC m q c ++ T') tv t := fun c T' => by
    obtain ⟨N, hN⟩ := hm
    exact (MC.ints hN hq1 ht).old T'
  obtain ⟨A, O, sl, la, _⟩ := id ht
  obtain ⟨q', c', rfl⟩ := sl.shape
  have rd : ∀ c T' k, k < t.length → Rd (MC m q c ++ T') A (O + k) (.int .i64 (t.getD k 0)) := fun c T' k hk => by
    obtain ⟨N, rfl⟩ := hm
    obtain ⟨N', hN'⟩ := set_high (N := N) hq1 (some { cells := c })
    obtain ⟨A2, O2, sl2, la2, rd2⟩ := ht
    unfold MC
    rw [hN', List.append_assoc]
    rcases sl with ⟨_, h⟩ | ⟨c1, _, e1⟩ | ⟨h, _⟩
    · omega
    · rcases sl2 with ⟨_, h⟩ | ⟨c2, _, e2⟩ | ⟨h, _⟩
      · omega
      · rw [e1] at e2
        injection e2 with e2
        injection e2 with e2
        injection e2 with e3 e4
        subst e3 e4
        exact (rd2 k hk).old _
      · omega
    · omega
  have hlm : ∀ c, (MC m q c ++ T).length = (MC m q [.bool b] ++ T).length := fun c => by simp [MC.len]
  have z3 : ∀ c T', Rd (MC m q c ++ T') a3 0 (.slice q' t.length c') := fun u T' => (MC.rd n3 h3).old T'
  have z4 : ∀ c T', Rd (MC m q c ++ T') a4 0 (.pointer (some ⟨p, 0, none⟩)) := fun u T' => (MC.rd n4 h4).old T'
  have zq : ∀ c T', (MC m q [c] ++ T')[q]? = some (some { cells := [c] }) := fun u T' => get_old _ (MC.at hq)
  have zb : ∀ c T', Rd (MC m q [c] ++ T') q 0 c := fun c T' => ⟨_, zq c T', rfl⟩
  have tw := fun c T' => (hBv c T').w
  have th := fun c T' => (hBv c T').h
  have hL := fun c T' => leaf_ok (hBv c T') hg hr
  have hlen := fun M d => length_ok (m := M) r d
  have hP := fun M d i h1 h2 => part_ok (m := M) r d (i := i) h1 h2 (by omega)
  have hN := fun M (r' : R4) (h : r'.ok (bw B) (bh B)) => num_ok (m := M) hin.2.2.2 hin.2.1 h
  have hlf := leafM_in hg r
  have hpos := fun d => len_pos d hr
  have hle := fun d => len_le d hin.2.2.2 hin.2.1 hr
  have hlo := fun d i h1 h2 => lo_ok (d := d) (i := i) hr h1 h2
  have hhi := fun d i h1 h2 => hi_ok (d := d) (i := i) hr h1 h2
  have hmem : ∀ (c c2 : Value) (T' : AM), (MC m q [c] ++ T').set q (some { cells := [c].set 0 c2 }) = MC m q [c2] ++ T' := fun c c2 T' => MC.set hq T'
  have hok : okR (leafM B K) (bw B) (bh B) t r = (decide (leafM B K r ≤ t.getD (r.at (bw B) (bh B)) 0) && cutOk (bw B) (bh B) t r true (r.len true - 1) && cutOk (bw B) (bh B) t r false (r.len false - 1)) := rfl
  have hst : ∀ d k, cutOk (bw B) (bh B) t r d (k + 1) = (cutOk (bw B) (bh B) t r d k && decide (t.getD ((r.lo d (k + 1)).at (bw B) (bh B)) 0 + t.getD ((r.hi d (k + 1)).at (bw B) (bh B)) 0 ≤ t.getD (r.at (bw B) (bh B)) 0)) := fun d k => rfl
  change ∀ c T', ACall Tryd.prog 71 #[_, .agg r.rc.cells.toArray] _ _ at hL
  change ∀ M d, ACall Tryd.prog 80 #[.agg r.rc.cells.toArray, _] _ _ at hlen
  change ∀ M d i, _ → _ → ACall Tryd.prog 81 #[.agg r.rc.cells.toArray, _, _] _ (Ret (.tuple #[.agg (r.lo d i).rc.cells.toArray, .agg (r.hi d i).rc.cells.toArray]) _) at hP
  change ∀ M (r' : R4), _ → ACall Tryd.prog 63 #[_, _, .agg r'.rc.cells.toArray] _ _ at hN
  change ACall Tryd.prog 79 #[.agg r.rc.cells.toArray, _, _, _, _] _ _
  have hrat := hat r hr
  rw [hok]
  have hg0 : ∀ (r : R4), ∀ v ∈ r.rc.cells, g0 v = true := fun r v hv => by
    simp [Rc.cells] at hv
    rcases hv with rfl | rfl | rfl | rfl <;> rfl
  have hr0 := hg0 r
  generalize hrr : r.rc = rr at *
  generalize hnn : r.at (bw B) (bh B) = n at *
  have x1 := hi n
  have rdn : ∀ c T', Rd (MC m q c ++ T') A (O + n) (.int .i64 (t.getD n 0)) := fun c T' => rd c T' n hrat
  refine ACall.start Tryd.func79 rfl rfl ?_
  (repeat (first | (with_reducible refine AWo.cons ?_) | ((with_reducible refine Step.id ?_); ((with_reducible apply Step.box 0); exact rfl; exact rfl; (focus (kernel_rfl)); exact rfl; (focus (first | (simp only [List.nil_append, List.cons_append, List.set_cons_zero, List.set_cons_succ, iv_set, bv_set, iv_rep, bv_rep]; done) | (simp only [List.nil_append, List.cons_append, List.set_cons_zero, List.set_cons_succ, iv_set, bv_set, iv_rep, bv_rep]; rfl) | rfl)))) | (with_reducible refine AWo.nil ?_) | ((fail_if_success (with_reducible refine AW.atR (id := 1) ?_)); ((with_reducible apply AW.seq))) | ((with_reducible apply Then.n)) | ((with_reducible apply AW.regL))))
  rw [List.append_assoc]
  change AW _ _ _ _ _ (MC m q [.bool b] ++ (T ++ [some { cells := rr.cells }])) _
  have r5 : ∀ c X, RdL (MC m q c ++ (T ++ (some { cells := rr.cells } :: X))) ((MC m q [.bool b] ++ T).length + 0) 0 rr.cells := fun u X => by
    rw [← List.append_assoc, ← hlm u]; exact RdL.new rfl rfl
  generalize hbp : (MC m q [.bool b] ++ T).length + 0 = bp at *
  refine AW.joinS [(1, .int .i64 (n : Nat)), (2, .pointer (some ⟨q, 0, none⟩)), (3, .pointer (some ⟨a3, 0, none⟩)), (4, .pointer (some ⟨a4, 0, none⟩)), (5, .pointer (some ⟨bp, 0, none⟩))] (MC m q [.bool (b && decide (leafM B K r ≤ t.getD n 0))] ++ (T ++ [some { cells := rr.cells }])) ?_ ?_
  · refine AW.flatM fit [(1, .int .i64 (n : Nat)), (2, .pointer (some ⟨q, 0, none⟩)), (3, .pointer (some ⟨a3, 0, none⟩)), (4, .pointer (some ⟨a4, 0, none⟩)), (5, .pointer (some ⟨bp, 0, none⟩))] [1, 2, 3, 4, 5] [[], [0], [0], [1], [1, 0, 2], [0, 3], [4], [5], [1, 0, 6, 6], [3, 0, 7], [8, 0], [0, 2, 10, 9, 8, 7, 6, 5, 4, 3, 2, 1, 0]] (by repeat (first | exact trivial | (refine And.intro rfl ?_))) rfl (by decide +kernel) ?_
    cases b with
    | false =>
      (repeat (first | ((with_reducible refine Step.id ?_); first | ((with_reducible apply Step.gdF); exact rfl; exact rfl; (focus (rfl))) | ((with_reducible apply Step.move); exact rfl; exact rfl) | ((with_reducible apply Step.load); exact rfl; (focus (decide +kernel)); exact rfl; (focus (exact zb _ _))) | ((with_reducible apply Step.pickF); exact rfl; exact rfl; exact rfl; exact rfl; (focus (rfl)))) | (apply AWfL.cons; exact rfl) | ((with_reducible apply AWfL.last)) | exact ⟨put_same _ _ _, rfl⟩))
      ((with_reducible apply Step.storeC); exact rfl; exact rfl; exact (zq _ _); exact rfl; (focus (decide +kernel)); exact rfl; exact rfl; (focus (simp)))
      rw [hmem]
      intro t2 ht2
      exact ⟨rfl, by repeat (first | exact trivial | refine And.intro (ht2 _ _ rfl) ?_)⟩
    | true =>
      (repeat (first | ((with_reducible refine Step.id ?_); first | ((with_reducible apply Step.gdT); exact rfl; exact rfl; (focus (rfl))) | ((with_reducible apply Step.move); exact rfl; exact rfl) | ((with_reducible apply Step.load); exact rfl; (focus (decide +kernel)); exact rfl; (focus (first | exact zb _ _ | exact z3 _ _ | exact z4 _ _ | exact rdn _ _))) | ((with_reducible apply Step.loadL (n := 4)); exact rfl; (focus (decide +kernel)); (focus (decide +kernel)); exact rfl; (focus (exact r5 _ _)); exact rfl; exact rfl) | ((with_reducible apply Step.ix1); exact rfl; (focus (assumption)); exact rfl; (focus (decide +kernel)); exact rfl; (focus (omega))) | ((with_reducible apply Step.geq); exact rfl; exact rfl; exact rfl) | ((with_reducible apply Step.pickT); exact rfl; exact rfl; exact rfl; exact rfl; (focus (rfl))) | ((with_reducible apply Step.callR fit); exact rfl; exact Tryd.func71; exact rfl; exact rfl; exact (hL _ _))) | (apply AWfL.cons; exact rfl) | ((with_reducible apply AWfL.last)) | exact ⟨put_same _ _ _, rfl⟩))
      ((with_reducible apply Step.storeC); exact rfl; exact rfl; exact (zq _ _); exact rfl; (focus (decide +kernel)); exact rfl; exact rfl; (focus (simp)))
      rw [hmem]
      intro t2 ht2
      exact ⟨by rw [Bool.true_and], by repeat (first | exact trivial | refine And.intro (ht2 _ _ rfl) ?_)⟩
  have hfin : (b && (decide (leafM B K r ≤ t.getD n 0) && cutOk (bw B) (bh B) t r true (r.len true - 1) && cutOk (bw B) (bh B) t r false (r.len false - 1))) = okW (bw B) (bh B) t r (b && decide (leafM B K r ≤ t.getD n 0)) 2 := by
    simp only [okW, Bool.and_assoc]; rfl
  rw [hfin]
  generalize (b && decide (leafM B K r ≤ t.getD n 0)) = w0
  have hW : ∀ k, okW (bw B) (bh B) t r w0 (k + 1) = (okW (bw B) (bh B) t r w0 k && cutOk (bw B) (bh B) t r (k == 0) (r.len (k == 0) - 1)) := fun k => rfl
  have hW0 : okW (bw B) (bh B) t r w0 0 = w0 := rfl
  generalize okW (bw B) (bh B) t r w0 = W at *
  clear hok hfin
  (repeat (first | (with_reducible refine AWo.cons ?_) | ((with_reducible refine Step.id ?_); ((with_reducible apply Step.assign); exact rfl; exact rfl)) | (with_reducible refine AWo.nil ?_) | ((with_reducible apply AW.seq)) | ((with_reducible apply Then.n)) | ((with_reducible apply AW.regL)) | ((with_reducible apply AW.block))))
  refine AW.loopW (fun rk t M => ∃ k : Nat, rk = 2 - k ∧ k ≤ 2 ∧ M = MC m q [.bool (W k)] ++ (T ++ [some { cells := rr.cells }]) ∧ t = fr [(1, .int .i64 (n : Nat)), (2, .pointer (some ⟨q, 0, none⟩)), (3, .pointer (some ⟨a3, 0, none⟩)), (4, .pointer (some ⟨a4, 0, none⟩)), (5, .pointer (some ⟨bp, 0, none⟩)), (7, .int .i64 (2 + k : Nat))])
    ⟨_, _, (by repeat (first | exact trivial | (refine And.intro rfl ?_))), 0, rfl, Nat.zero_le _, by rw [hW0], rfl⟩ ?_
  rintro rk t0 M ⟨k, rfl, hk, rfl, rfl⟩
  have hgo : ∀ k, k ≤ 2 → (k = 2 ∨ W k = false) → W k = W 2 := fun k hk h => by
    rcases h with rfl | h
    · rfl
    · rcases (show k = 0 ∨ k = 1 ∨ k = 2 by omega) with rfl | rfl | rfl
      · rw [h, hW 1, hW 0, h]; rfl
      · rw [h, hW 1, h]; rfl
      · rfl
  have hcell0 : ∀ b, some b ∈ ([] : AM) → isMapK b.kind = false ∧ ∀ x ∈ b.cells, g0 x = true := fun b hb => by simp at hb
  by_cases hx : k = 2 ∨ W k = false
  · have hwk := hgo k hk hx
    rw [← List.append_assoc]
    refine AW.gc (Gc.cut (l := [(2, .pointer (some ⟨q, 0, none⟩)), (7, .int .i64 (2 + k : Nat))]) (by rw [hlm [.bool (W k)]]; exact Nat.le_refl _) (fun j bb hj => ?_) ?_) ?_
    · have := MC.cut (m := m) (c := [.bool b]) (c' := [.bool (W k)]) hq (fun x hx => by simp at hx; subst hx; rfl) T [] hcell0 (MC m q [.bool (W k)] ++ T).length j bb (by rw [List.append_nil]; exact hj)
      exact this
    · have wq : Low (MC m q [.bool (W k)] ++ T).length (.pointer (some ⟨q, 0, none⟩)) := Low.ptr (by rw [List.length_append, MC.len]; omega)
      exact (by repeat (first | exact trivial | (refine And.intro ⟨rfl, by (first | exact Low.rid (by assumption) (by simp) | exact .int _ _)⟩ ?_)))
    · rcases hx with rfl | hx
      · (repeat (first | (with_reducible refine AWo.cons ?_) | ((with_reducible refine Step.id ?_); first | ((with_reducible apply Step.gdF); exact rfl; exact rfl; (focus (rfl))) | ((with_reducible apply Step.move); exact rfl; exact rfl) | ((with_reducible apply Step.leq); exact rfl; exact rfl; exact rfl) | ((with_reducible apply Step.pickF); exact rfl; exact rfl; exact rfl; exact rfl; (focus (rfl)))) | (with_reducible refine AWo.nil ?_) | ((with_reducible apply AW.seq)) | ((with_reducible apply Then.n)) | ((with_reducible apply AW.regL)) | ((with_reducible apply AW.exit)) | ((with_reducible apply InBlk.hit)) | ((with_reducible apply Then.e)) | ((with_reducible apply AW.condF); exact rfl; (focus (rfl)))))
        exact ⟨_, rfl, rfl, by rw [hwk]⟩
      · rcases Nat.lt_or_ge k 2 with hk2 | hk2
        · have zf : ∀ T', Rd (MC m q [.bool (W k)] ++ T') q 0 (.bool false) := fun T' => by
            have := zb (.bool (W k)) T'
            rw [hx] at this ⊢
            exact this
          (repeat (first | (with_reducible refine AWo.cons ?_) | ((with_reducible refine Step.id ?_); first | ((with_reducible apply Step.gdT); exact rfl; exact rfl; (focus ((simp only [decide_eq_true_eq, decide_eq_false_iff_not, Bool.not_eq_true', Bool.not_eq_false', Bool.not_true, Bool.not_false]; first | assumption | omega)))) | ((with_reducible apply Step.move); exact rfl; exact rfl) | ((with_reducible apply Step.load); exact rfl; (focus (decide +kernel)); exact rfl; (focus (exact zf _))) | ((with_reducible apply Step.leq); exact rfl; exact rfl; exact rfl) | ((with_reducible apply Step.pickT); exact rfl; exact rfl; exact rfl; exact rfl; (focus ((simp only [decide_eq_true_eq, decide_eq_false_iff_not, Bool.not_eq_true', Bool.not_eq_false', Bool.not_true, Bool.not_false]; first | assumption | omega))))) | (with_reducible refine AWo.nil ?_) | ((with_reducible apply AW.seq)) | ((with_reducible apply Then.n)) | ((with_reducible apply AW.regL)) | ((with_reducible apply AW.exit)) | ((with_reducible apply InBlk.hit)) | ((with_reducible apply Then.e)) | ((with_reducible apply AW.condF); exact rfl; (focus (rfl)))))
          exact ⟨_, rfl, rfl, by rw [hwk]⟩
        · obtain rfl : k = 2 := by omega
          (repeat (first | (with_reducible refine AWo.cons ?_) | ((with_reducible refine Step.id ?_); first | ((with_reducible apply Step.gdF); exact rfl; exact rfl; (focus (rfl))) | ((with_reducible apply Step.move); exact rfl; exact rfl) | ((with_reducible apply Step.leq); exact rfl; exact rfl; exact rfl) | ((with_reducible apply Step.pickF); exact rfl; exact rfl; exact rfl; exact rfl; (focus (rfl)))) | (with_reducible refine AWo.nil ?_) | ((with_reducible apply AW.seq)) | ((with_reducible apply Then.n)) | ((with_reducible apply AW.regL)) | ((with_reducible apply AW.exit)) | ((with_reducible apply InBlk.hit)) | ((with_reducible apply Then.e)) | ((with_reducible apply AW.condF); exact rfl; (focus (rfl)))))
          exact ⟨_, rfl, rfl, rfl⟩
  · have hk2 : k < 2 := by omega
    have hwk : W k = true := by
      cases e : W k with
      | true => rfl
      | false => exact absurd (.inr e) hx
    have hop : ((2 + k : Nat) : Int) = opI (k == 0) := by
      rcases (show k = 0 ∨ k = 1 by omega) with rfl | rfl <;> rfl
    have hWk := hW k
    rw [hwk, Bool.true_and] at hWk
    rw [hwk]
    have hpd := hpos (k == 0)
    have hld := hle (k == 0)
    have hPd := fun M i => hP M (k == 0) i
    have hlend := fun M => hlen M (k == 0)
    have hlod := fun i => hlo (k == 0) i
    have hhid := fun i => hhi (k == 0) i
    have hstd := fun i => hst (k == 0) i
    have hc0 : cutOk (bw B) (bh B) t r (k == 0) 0 = true := rfl
    rw [← hop] at hPd hlend
    generalize (k == 0) = d at *
    generalize hC : cutOk (bw B) (bh B) t r d = C at *
    (repeat (first | (with_reducible refine AWo.cons ?_) | ((with_reducible refine Step.id ?_); first | ((with_reducible apply Step.gdT); exact rfl; exact rfl; (focus ((simp only [decide_eq_true_eq, decide_eq_false_iff_not, Bool.not_eq_true', Bool.not_eq_false', Bool.not_true, Bool.not_false]; first | assumption | omega)))) | ((with_reducible apply Step.move); exact rfl; exact rfl) | ((with_reducible apply Step.assign); exact rfl; exact rfl) | ((with_reducible apply Step.load); exact rfl; (focus (decide +kernel)); exact rfl; (focus (exact zb _ _))) | ((with_reducible apply Step.leq); exact rfl; exact rfl; exact rfl) | ((with_reducible apply Step.pickT); exact rfl; exact rfl; exact rfl; exact rfl; (focus ((simp only [decide_eq_true_eq, decide_eq_false_iff_not, Bool.not_eq_true', Bool.not_eq_false', Bool.not_true, Bool.not_false]; first | assumption | omega))))) | (with_reducible refine AWo.nil ?_) | ((with_reducible apply AW.seq)) | ((with_reducible apply Then.n)) | ((with_reducible apply AW.regL)) | ((with_reducible apply AW.block)) | ((with_reducible apply AW.skip)) | ((with_reducible apply AW.condT); exact rfl; (focus (rfl)))))
    refine AW.loopW (fun rk t0 M => ∃ i : Nat, rk = r.len d - 1 - i ∧ i + 1 ≤ r.len d ∧ M = MC m q [.bool (C i)] ++ (T ++ [some { cells := rr.cells }]) ∧ t0 = fr [(1, .int .i64 (n : Nat)), (2, .pointer (some ⟨q, 0, none⟩)), (3, .pointer (some ⟨a3, 0, none⟩)), (4, .pointer (some ⟨a4, 0, none⟩)), (5, .pointer (some ⟨bp, 0, none⟩)), (7, .int .i64 (2 + k : Nat)), (8, .int .i64 (i + 1 : Nat))])
      ⟨_, _, (by repeat (first | exact trivial | (refine And.intro rfl ?_))), 0, rfl, by omega, by rw [hc0], rfl⟩ ?_
    rintro rk t0 M ⟨i, rfl, hi1, rfl, rfl⟩
    rcases Nat.lt_or_ge (i + 1) (r.len d) with hlt | hge
    · have o1 := hlod (i + 1) (by omega) (by omega)
      have o2 := hhid (i + 1) (by omega) (by omega)
      have d1 := fun c T' => rd c T' _ (hat _ o1)
      have d2 := fun c T' => rd c T' _ (hat _ o2)
      have y1 := hat _ o1
      have y2 := hat _ o2
      have n1 := fun M => hN M _ o1
      have n2 := fun M => hN M _ o2
      have f1 := hi ((r.lo d (i + 1)).at (bw B) (bh B))
      have f2 := hi ((r.hi d (i + 1)).at (bw B) (bh B))
      have hPi := fun M => hPd M (i + 1) (by omega) (by omega)
      have hsti := hstd i
      have g1c := hg0 (r.lo d (i + 1))
      have g2c := hg0 (r.hi d (i + 1))
      generalize (r.lo d (i + 1)).at (bw B) (bh B) = s1 at *
      generalize (r.hi d (i + 1)).at (bw B) (bh B) = s2 at *
      generalize (r.lo d (i + 1)).rc = g1 at *
      generalize (r.hi d (i + 1)).rc = g2 at *
      have zbx : ∀ X, Rd ((MC m q [.bool (C i)] ++ (T ++ ([some { cells := rr.cells }] : AM))) ++ X) q 0 (.bool (C i)) := fun X => by rw [List.append_assoc]; exact zb _ _
      have z3x : ∀ X, Rd ((MC m q [.bool (C i)] ++ (T ++ ([some { cells := rr.cells }] : AM))) ++ X) a3 0 _ := fun X => by rw [List.append_assoc]; exact z3 _ _
      have z4x : ∀ X, Rd ((MC m q [.bool (C i)] ++ (T ++ ([some { cells := rr.cells }] : AM))) ++ X) a4 0 _ := fun X => by rw [List.append_assoc]; exact z4 _ _
      have rdx : ∀ X, Rd ((MC m q [.bool (C i)] ++ (T ++ ([some { cells := rr.cells }] : AM))) ++ X) A (O + n) _ := fun X => by rw [List.append_assoc]; exact rdn _ _
      have d1x : ∀ X, Rd ((MC m q [.bool (C i)] ++ (T ++ ([some { cells := rr.cells }] : AM))) ++ X) A (O + s1) _ := fun X => by rw [List.append_assoc]; exact d1 _ _
      have d2x : ∀ X, Rd ((MC m q [.bool (C i)] ++ (T ++ ([some { cells := rr.cells }] : AM))) ++ X) A (O + s2) _ := fun X => by rw [List.append_assoc]; exact d2 _ _
      have twx : ∀ X, Rd ((MC m q [.bool (C i)] ++ (T ++ ([some { cells := rr.cells }] : AM))) ++ X) p 2 _ := fun X => by rw [List.append_assoc]; exact tw _ _
      have thx : ∀ X, Rd ((MC m q [.bool (C i)] ++ (T ++ ([some { cells := rr.cells }] : AM))) ++ X) p 3 _ := fun X => by rw [List.append_assoc]; exact th _ _
      have r5x : ∀ X, RdL ((MC m q [.bool (C i)] ++ (T ++ ([some { cells := rr.cells }] : AM))) ++ X) bp 0 rr.cells := fun X => by rw [List.append_assoc, List.append_assoc]; exact r5 _ _
      have zqx : ∀ X, ((MC m q [.bool (C i)] ++ (T ++ ([some { cells := rr.cells }] : AM))) ++ X)[q]? = some (some { cells := [.bool (C i)] }) := fun X => by rw [List.append_assoc]; exact zq _ _
      have stx : ∀ (c2 : Value) X, ((MC m q [.bool (C i)] ++ (T ++ ([some { cells := rr.cells }] : AM))) ++ X).set q (some { cells := [Value.bool (C i)].set 0 c2 }) = (MC m q [c2] ++ (T ++ ([some { cells := rr.cells }] : AM))) ++ X := fun c2 X => by rw [List.append_assoc, hmem, ← List.append_assoc]
      have hlx : ∀ c, (MC m q c ++ (T ++ ([some { cells := rr.cells }] : AM))).length = (MC m q [.bool (C i)] ++ (T ++ ([some { cells := rr.cells }] : AM))).length := fun c => by simp [MC.len]
      have gcx := fun c2 j bb hj => MC.cut (m := m) (c := [.bool (C i)]) (c' := [.bool c2]) hq (fun x hx => by simp at hx; subst hx; rfl) (T ++ ([some { cells := rr.cells }] : AM)) [] hcell0 (MC m q [.bool c2] ++ (T ++ ([some { cells := rr.cells }] : AM))).length j bb hj
      refine AW.rebase ?_
      generalize hMx : MC m q [.bool (C i)] ++ (T ++ [some { cells := rr.cells }]) = Mx at *
      have r9 : ∀ (T' : AM), RdL (Mx ++ (some { cells := g1.cells } :: T')) (Mx.length + 0) 0 g1.cells := fun T' => RdL.new rfl rfl
      have r10 : ∀ b0 (T' : AM), RdL (Mx ++ (b0 :: some { cells := g2.cells } :: T')) (Mx.length + 1) 0 g2.cells := fun b0 T' => RdL.new rfl rfl
      have hb5 : bp < Mx.length := by
        obtain ⟨bb, h1, _⟩ := r5x []
        have := (List.getElem?_eq_some_iff.1 h1).1
        simpa using this
      have hbm : m.length ≤ Mx.length := by rw [← hlx []]; simp [MC.len]
      have w2 : Low Mx.length (.pointer (some ⟨q, 0, none⟩)) := Low.ptr (by omega)
      have w3 : Low Mx.length (.pointer (some ⟨a3, 0, none⟩)) := Low.ptr (by obtain ⟨bb, h1, _⟩ := h3; have := (List.getElem?_eq_some_iff.1 h1).1; omega)
      have w4 : Low Mx.length (.pointer (some ⟨a4, 0, none⟩)) := Low.ptr (by obtain ⟨bb, h1, _⟩ := h4; have := (List.getElem?_eq_some_iff.1 h1).1; omega)
      have w5 : Low Mx.length (.pointer (some ⟨bp, 0, none⟩)) := Low.ptr hb5
      (repeat (first | (with_reducible refine AWo.cons ?_) | ((with_reducible refine Step.id ?_); first | ((with_reducible apply Step.move); exact rfl; exact rfl) | ((with_reducible apply Step.loadL (n := 4)); exact rfl; (focus (decide +kernel)); (focus (decide +kernel)); exact rfl; (focus (exact r5x _)); exact rfl; exact rfl) | ((with_reducible apply Step.lss); exact rfl; exact rfl; exact rfl) | ((with_reducible apply Step.extract); exact rfl; exact rfl; exact rfl) | ((with_reducible apply Step.callR fit); exact rfl; exact Tryd.func80; exact rfl; exact rfl; exact (hlend _)) | ((with_reducible apply Step.callR fit); exact rfl; exact Tryd.func81; exact rfl; exact rfl; exact (hPi _)) | ((with_reducible apply Step.alloc 0); exact rfl; exact ze23; exact rfl; (focus (first | (simp only [List.nil_append, List.cons_append, List.set_cons_zero, List.set_cons_succ, iv_set, bv_set, iv_rep, bv_rep]; done) | (simp only [List.nil_append, List.cons_append, List.set_cons_zero, List.set_cons_succ, iv_set, bv_set, iv_rep, bv_rep]; rfl) | rfl))) | ((with_reducible apply Step.storeA (k := 0) (n := 4)); exact rfl; exact rfl; exact rfl; exact rfl; (focus (decide +kernel)); exact rfl; (focus (kernel_rfl)); exact rfl; (focus (first | (simp only [List.nil_append, List.cons_append, List.set_cons_zero, List.set_cons_succ, iv_set, bv_set, iv_rep, bv_rep]; done) | (simp only [List.nil_append, List.cons_append, List.set_cons_zero, List.set_cons_succ, iv_set, bv_set, iv_rep, bv_rep]; rfl) | rfl))) | ((with_reducible apply Step.alloc 1); exact rfl; exact ze23; exact rfl; (focus (first | (simp only [List.nil_append, List.cons_append, List.set_cons_zero, List.set_cons_succ, iv_set, bv_set, iv_rep, bv_rep]; done) | (simp only [List.nil_append, List.cons_append, List.set_cons_zero, List.set_cons_succ, iv_set, bv_set, iv_rep, bv_rep]; rfl) | rfl))) | ((with_reducible apply Step.storeA (k := 1) (n := 4)); exact rfl; exact rfl; exact rfl; exact rfl; (focus (decide +kernel)); exact rfl; (focus (kernel_rfl)); exact rfl; (focus (first | (simp only [List.nil_append, List.cons_append, List.set_cons_zero, List.set_cons_succ, iv_set, bv_set, iv_rep, bv_rep]; done) | (simp only [List.nil_append, List.cons_append, List.set_cons_zero, List.set_cons_succ, iv_set, bv_set, iv_rep, bv_rep]; rfl) | rfl)))) | (with_reducible refine AWo.nil ?_) | ((with_reducible apply AW.seq)) | ((with_reducible apply Then.n)) | ((fail_if_success (with_reducible refine AW.atL (id := 9) ?_)); ((with_reducible apply AW.regL))) | ((with_reducible apply AW.block)) | ((with_reducible apply AW.skip)) | ((with_reducible apply AW.condT); exact rfl; (focus ((simp only [decide_eq_true_eq, decide_eq_false_iff_not, Bool.not_eq_true', Bool.not_eq_false', Bool.not_true, Bool.not_false]; first | assumption | omega))))))
      refine AW.flatM fit [(1, .int .i64 (n : Nat)), (2, .pointer (some ⟨q, 0, none⟩)), (3, .pointer (some ⟨a3, 0, none⟩)), (4, .pointer (some ⟨a4, 0, none⟩)), (5, .pointer (some ⟨bp, 0, none⟩)), (7, .int .i64 (2 + k : Nat)), (8, .int .i64 (i + 1 : Nat)), (9, .pointer (some ⟨Mx.length + 0, 0, none⟩)), (10, .pointer (some ⟨Mx.length + 1, 0, none⟩))] [1, 2, 3, 4, 5, 7, 8, 9, 10] [[], [0], [0], [1], [1, 0, 2], [0, 3], [4], [5], [0, 6], [0, 7], [0, 8], [9], [0, 10], [0, 11], [0, 12], [13], [5, 1, 0, 14, 14], [10, 0, 15], [0, 16], [13, 0, 17], [18], [19], [0, 20], [0, 21], [0, 22], [23], [0, 24], [0, 25], [0, 26], [27], [5, 1, 0, 13, 28], [10, 0, 29], [0, 30], [13, 0, 31], [32, 0], [0, 4, 34, 33, 32, 31, 30, 29, 28, 27, 26, 25, 24, 23, 22, 21, 20, 19, 18, 17, 16, 15, 14, 13, 12, 11, 10, 9, 8, 7, 6, 5, 4, 3, 2, 1, 0]] (by repeat (first | exact trivial | (refine And.intro rfl ?_))) rfl (by decide +kernel) ?_
      cases hci : C i with
      | false =>
        rw [hci] at zbx
        (repeat (first | ((with_reducible refine Step.id ?_); first | ((with_reducible apply Step.gdF); exact rfl; exact rfl; (focus (rfl))) | ((with_reducible apply Step.move); exact rfl; exact rfl) | ((with_reducible apply Step.load); exact rfl; (focus (decide +kernel)); exact rfl; (focus (exact zbx _))) | ((with_reducible apply Step.pickF); exact rfl; exact rfl; exact rfl; exact rfl; (focus (rfl)))) | (apply AWfL.cons; exact rfl) | ((with_reducible apply AWfL.last)) | exact ⟨put_same _ _ _, rfl⟩))
        have hnew : C (i + 1) = false := by rw [hsti, hci]; rfl
        ((with_reducible apply Step.storeC); exact rfl; exact rfl; exact (zqx _); exact rfl; (focus (decide +kernel)); exact rfl; exact rfl; (focus (simp)))
        rw [stx, show MC m q [Value.bool false] = MC m q [Value.bool (C (i + 1))] from by rw [hnew]]
        have hls := hlx [.bool (C (i + 1))]
        intro t2 ht2
        refine InBlk.n ?_
        refine Then.n ?_
        refine AW.weak ht2 ?_
        refine AW.gc (Gc.cut (l := [(1, .int .i64 (n : Nat)), (2, .pointer (some ⟨q, 0, none⟩)), (3, .pointer (some ⟨a3, 0, none⟩)), (4, .pointer (some ⟨a4, 0, none⟩)), (5, .pointer (some ⟨bp, 0, none⟩)), (7, .int .i64 (2 + k : Nat)), (8, .int .i64 (i + 1 : Nat))]) (by rw [hls]; exact Nat.le_refl _) (fun j bb hj => gcx (C (i + 1)) j bb (by rw [List.append_nil]; exact hj)) (by rw [hls]; exact (by repeat (first | exact trivial | (refine And.intro ⟨rfl, by (first | exact Low.rid (by assumption) (by simp) | exact .int _ _)⟩ ?_))))) ?_
        (repeat (first | (with_reducible refine AWo.cons ?_) | ((with_reducible refine Step.id ?_); first | ((with_reducible apply Step.move); exact rfl; exact rfl) | ((with_reducible apply Step.assign); exact rfl; exact rfl) | ((with_reducible apply Step.add); exact rfl; exact rfl; (focus (omega)); exact rfl)) | (with_reducible refine AWo.nil ?_) | ((with_reducible apply Then.n)) | ((with_reducible apply AW.regL))))
        exact ⟨_, _, by omega, (by repeat (first | exact trivial | (refine And.intro rfl ?_))), i + 1, rfl, by omega, rfl, rfl⟩
      | true =>
        rw [hci] at zbx
        (repeat (first | ((with_reducible refine Step.id ?_); first | ((with_reducible apply Step.gdT); exact rfl; exact rfl; (focus (rfl))) | ((with_reducible apply Step.move); exact rfl; exact rfl) | ((with_reducible apply Step.load); exact rfl; (focus (decide +kernel)); exact rfl; (focus (first | exact zbx _ | exact z3x _ | exact z4x _ | exact rdx _ | exact d1x _ | exact d2x _ | exact twx _ | exact thx _))) | ((with_reducible apply Step.loadL (n := 4)); exact rfl; (focus (decide +kernel)); (focus (decide +kernel)); exact rfl; (focus (exact RdL.new rfl rfl)); exact rfl; exact rfl) | ((with_reducible apply Step.ix1); exact rfl; (focus (assumption)); exact rfl; (focus (decide +kernel)); exact rfl; (focus (omega))) | ((with_reducible apply Step.field (k := 2)); exact rfl; (focus (decide +kernel)); exact rfl) | ((with_reducible apply Step.field (k := 3)); exact rfl; (focus (decide +kernel)); exact rfl) | ((with_reducible apply Step.sub); exact rfl; exact rfl; (focus (omega)); exact rfl) | ((with_reducible apply Step.geq); exact rfl; exact rfl; exact rfl) | ((with_reducible apply Step.nilp); exact rfl; exact rfl) | ((with_reducible apply Step.pickT); exact rfl; exact rfl; exact rfl; exact rfl; (focus (rfl))) | ((with_reducible apply Step.callR fit); exact rfl; exact Tryd.func63; exact rfl; exact rfl; exact (n1 _)) | ((with_reducible apply Step.callR fit); exact rfl; exact Tryd.func63; exact rfl; exact rfl; exact (n2 _))) | (apply AWfL.cons; exact rfl) | ((with_reducible apply AWfL.last)) | exact ⟨put_same _ _ _, rfl⟩))
        have hnew : C (i + 1) = decide (t.getD s2 0 ≤ t.getD n 0 - t.getD s1 0) := by rw [hsti, hci, Bool.true_and]; exact decide_eq_decide.2 ⟨fun h => by omega, fun h => by omega⟩
        ((with_reducible apply Step.storeC); exact rfl; exact rfl; exact (zqx _); exact rfl; (focus (decide +kernel)); exact rfl; exact rfl; (focus (simp)))
        rw [stx, show MC m q [Value.bool (decide (t.getD s2 0 ≤ t.getD n 0 - t.getD s1 0))] = MC m q [Value.bool (C (i + 1))] from by rw [hnew]]
        have hls := hlx [.bool (C (i + 1))]
        intro t2 ht2
        refine InBlk.n ?_
        refine Then.n ?_
        refine AW.weak ht2 ?_
        refine AW.gc (Gc.cut (l := [(1, .int .i64 (n : Nat)), (2, .pointer (some ⟨q, 0, none⟩)), (3, .pointer (some ⟨a3, 0, none⟩)), (4, .pointer (some ⟨a4, 0, none⟩)), (5, .pointer (some ⟨bp, 0, none⟩)), (7, .int .i64 (2 + k : Nat)), (8, .int .i64 (i + 1 : Nat))]) (by rw [hls]; exact Nat.le_refl _) (fun j bb hj => gcx (C (i + 1)) j bb (by rw [List.append_nil]; exact hj)) (by rw [hls]; exact (by repeat (first | exact trivial | (refine And.intro ⟨rfl, by (first | exact Low.rid (by assumption) (by simp) | exact .int _ _)⟩ ?_))))) ?_
        (repeat (first | (with_reducible refine AWo.cons ?_) | ((with_reducible refine Step.id ?_); first | ((with_reducible apply Step.move); exact rfl; exact rfl) | ((with_reducible apply Step.assign); exact rfl; exact rfl) | ((with_reducible apply Step.add); exact rfl; exact rfl; (focus (omega)); exact rfl)) | (with_reducible refine AWo.nil ?_) | ((with_reducible apply Then.n)) | ((with_reducible apply AW.regL))))
        exact ⟨_, _, by omega, (by repeat (first | exact trivial | (refine And.intro rfl ?_))), i + 1, rfl, by omega, rfl, rfl⟩
    · obtain hie : i + 1 = r.len d := by omega
      (repeat (first | (with_reducible refine AWo.cons ?_) | ((with_reducible refine Step.id ?_); first | ((with_reducible apply Step.move); exact rfl; exact rfl) | ((with_reducible apply Step.assign); exact rfl; exact rfl) | ((with_reducible apply Step.loadL (n := 4)); exact rfl; (focus (decide +kernel)); (focus (decide +kernel)); exact rfl; (focus (exact r5 _ [])); exact rfl; exact rfl) | ((with_reducible apply Step.add); exact rfl; exact rfl; (focus (omega)); exact rfl) | ((with_reducible apply Step.lss); exact rfl; exact rfl; exact rfl) | ((with_reducible apply Step.callR fit); exact rfl; exact Tryd.func80; exact rfl; exact rfl; exact (hlend _))) | (with_reducible refine AWo.nil ?_) | ((with_reducible apply AW.seq)) | ((with_reducible apply Then.n)) | ((with_reducible apply AW.regL)) | ((with_reducible apply AW.exit)) | ((with_reducible apply InBlk.n)) | ((with_reducible apply InBlk.hit)) | ((with_reducible apply Then.e)) | ((with_reducible apply AW.condF); exact rfl; (focus ((simp only [decide_eq_true_eq, decide_eq_false_iff_not, Bool.not_eq_true', Bool.not_eq_false', Bool.not_true, Bool.not_false]; first | assumption | omega))))))
      exact ⟨_, _, by omega, (by repeat (first | exact trivial | (refine And.intro rfl ?_))), k + 1, rfl, by omega, by rw [hWk, ← hie]; rfl, rfl⟩
end Go.Proofs.YtibhgdglbillaaaDoor.Abs
namespace Go.Proofs.YtibhgdglbillaaaDoor.Abs
set_option linter.unusedSimpArgs false
set_option linter.unusedVariables false
open Go.RowKit
open Go.Proofs.YtibhgdglbillaaaDoor.Sim
open Go.Proofs
theorem ze100 : zeroB Tryd.prog 100 = some #[.pointer none] := by kernel_rfl
theorem ze4 : zeroB Tryd.prog 4 = some #[.bool false] := by kernel_rfl
/-- What Check answers. -/
def checkM (B : Brd) (K : List Kd) (t : List Int) : Int × Bool × Int :=
  if goodB B K = true then (if t.length = total (bw B) (bh B) then (if boundB (leafM B K) (bw B) (bh B) t = true then (tg (bw B) (bh B) t (wholeR B), true, 0) else (0, false, 0)) else (0, false, 3)) else (0, false, 2)
def chV (x : Int × Bool × Int) : Value := .tuple #[.int .i64 x.1, .bool x.2.1, .int .i64 x.2.2]
theorem Ren.tup3 {ρ : Nat → Nat} {n : Nat} (a : Int) (b : Bool) (c : Int) : Ren ρ n (.tuple #[.int .i64 a, .bool b, .int .i64 c]) (.tuple #[.int .i64 a, .bool b, .int .i64 c]) := .tuple _ _ rfl fun i hi => by
  simp at hi
  rcases (show i = 0 ∨ i = 1 ∨ i = 2 by omega) with rfl | rfl | rfl
  · exact .int _ _
  · exact .bool _
  · exact .int _ _
def I64s (t : List Int) : Prop := ∀ i, -9223372036854775808 ≤ t.getD i 0 ∧ t.getD i 0 ≤ 9223372036854775807
set_option maxHeartbeats 8000000 in
set_option maxRecDepth 100000 in
theorem Check_ok {m : AM} {sv kv tv : Value} {B : Brd} {K : List Kd} {t : List Int} (hs : Strs m sv B) (hk : Kds m kv K) (ht : Ints m tv t) (h64 : I64s t) :
    ACall Tryd.prog 30 #[sv, kv, tv] m (Ret (chV (checkM B K t)) m) := by
  refine ACall.drop (Ren.tup3 _ _ _) ?_
  have htm := ht
  obtain ⟨A, O, sl, la, rd⟩ := ht
  obtain ⟨q1, c1, rfl⟩ := sl.shape
  refine ACall.start Tryd.func30 rfl rfl ?_
  cases hg : goodB B K with
  | false =>
    have e : checkM B K t = (0, false, 2) := by simp [checkM, hg]
    have hN := fun T => newBoard_no (hs.old T) (hk.old T) hg
    (repeat (first | (with_reducible refine AWo.cons ?_) | ((with_reducible refine Step.id ?_); first | ((with_reducible apply Step.move); exact rfl; exact rfl) | ((with_reducible apply Step.assign); exact rfl; exact rfl) | ((with_reducible apply Step.load); exact rfl; (focus (decide +kernel)); exact rfl; (focus (exact Rd.new rfl rfl))) | ((with_reducible apply Step.ptrNil); exact rfl; exact rfl; exact un100; exact rfl) | ((with_reducible apply Step.callR fit); exact rfl; exact Tryd.func65; exact rfl; exact rfl; exact (hN _)) | ((with_reducible apply Step.box 0); exact rfl; exact rfl; (focus (kernel_rfl)); exact rfl; (focus (first | (simp only [List.nil_append, List.cons_append, List.set_cons_zero, List.set_cons_succ, iv_set, bv_set, iv_rep, bv_rep]; done) | (simp only [List.nil_append, List.cons_append, List.set_cons_zero, List.set_cons_succ, iv_set, bv_set, iv_rep, bv_rep]; rfl) | rfl))) | ((with_reducible apply Step.alloc 1); exact rfl; exact ze100; exact rfl; (focus (first | (simp only [List.nil_append, List.cons_append, List.set_cons_zero, List.set_cons_succ, iv_set, bv_set, iv_rep, bv_rep]; done) | (simp only [List.nil_append, List.cons_append, List.set_cons_zero, List.set_cons_succ, iv_set, bv_set, iv_rep, bv_rep]; rfl) | rfl))) | ((with_reducible apply Step.store (k := 1)); exact rfl; exact rfl; exact rfl; exact rfl; (focus (decide +kernel)); exact rfl; exact rfl; (focus (first | omega | (simp [iv, bv]; done) | (simp [iv, bv]; omega))); (focus (first | (simp only [List.nil_append, List.cons_append, List.set_cons_zero, List.set_cons_succ, iv_set, bv_set, iv_rep, bv_rep]; done) | (simp only [List.nil_append, List.cons_append, List.set_cons_zero, List.set_cons_succ, iv_set, bv_set, iv_rep, bv_rep]; rfl) | rfl)))) | (with_reducible refine AWo.nil ?_) | ((with_reducible apply AW.seq)) | ((with_reducible apply Then.n)) | ((with_reducible apply AW.regL)) | ((with_reducible apply AW.condT); exact rfl; (focus (rfl)))))
    (refine AW.ret ?_; (repeat (first | refine Then.r ?_ | refine InBlk.r ?_)))
    exact ⟨_, rfl, by rw [e]; rfl, _, rfl⟩
  | true =>
  have hgb : boardB B = true := by simp only [goodB, Bool.and_eq_true] at hg; exact hg.1
  have hin := good_in hgb
  (repeat (first | (with_reducible refine AWo.cons ?_) | ((with_reducible refine Step.id ?_); first | ((with_reducible apply Step.move); exact rfl; exact rfl) | ((with_reducible apply Step.assign); exact rfl; exact rfl) | ((with_reducible apply Step.box 0); exact rfl; exact rfl; (focus (kernel_rfl)); exact rfl; (focus (first | (simp only [List.nil_append, List.cons_append, List.set_cons_zero, List.set_cons_succ, iv_set, bv_set, iv_rep, bv_rep]; done) | (simp only [List.nil_append, List.cons_append, List.set_cons_zero, List.set_cons_succ, iv_set, bv_set, iv_rep, bv_rep]; rfl) | rfl)))) | (with_reducible refine AWo.nil ?_) | ((with_reducible apply AW.seq)) | ((with_reducible apply Then.n)) | ((with_reducible apply AW.regL))))
  ((with_reducible apply Step.callX fit); exact rfl; exact Tryd.func65; exact rfl; exact rfl; exact (newBoard_ok (hs.old _) (hk.old _) hg))
  rintro v m1 ⟨N1, hN1⟩ ⟨p, hp, rfl, hB⟩
  have htv : Rd m1 (m.length + 0) 0 (.slice q1 t.length c1) := by rw [hN1]; exact Rd.old _ (Rd.new rfl rfl)
  have ht1 : Ints m1 (.slice q1 t.length c1) t := by rw [hN1]; exact (htm.old _).old _
  have rd1 : ∀ k, k < t.length → Rd m1 A (O + k) (.int .i64 (t.getD k 0)) := fun k hk => by rw [hN1]; exact ((rd k hk).old _).old _
  have la1 : A < m1.length := by rw [hN1]; simp <;> omega
  have hm1 : ∃ N, m1 = m ++ N := ⟨_, by rw [hN1, List.append_assoc]⟩
  have hml : m.length + 1 ≤ m1.length := by rw [hN1, List.length_append, List.length_append]; simp
  clear hN1 hp
  have tw := hB.w
  have th := hB.h
  have hR := fun m => Rects_ok (m := m) (bw B : Nat) (bh B : Nat)
  rw [total_rects hg] at hR
  have htl := total_le hin.2.2.2 hin.2.1
  by_cases hl : t.length = total (bw B) (bh B)
  case neg =>
    have e : checkM B K t = (0, false, 3) := by simp [checkM, hg, hl]
    (repeat (first | (with_reducible refine AWo.cons ?_) | ((with_reducible refine Step.id ?_); first | ((with_reducible apply Step.move); exact rfl; exact rfl) | ((with_reducible apply Step.assign); exact rfl; exact rfl) | ((with_reducible apply Step.load); exact rfl; (focus (decide +kernel)); exact rfl; (focus (first | exact Rd.new rfl rfl | exact Rd.old _ (by assumption)))) | ((with_reducible apply Step.field (k := 2)); exact rfl; (focus (decide +kernel)); exact rfl) | ((with_reducible apply Step.field (k := 3)); exact rfl; (focus (decide +kernel)); exact rfl) | ((with_reducible apply Step.ptrNot); exact rfl; exact rfl; exact un100; exact rfl) | ((with_reducible apply Step.neq); exact rfl; exact rfl; exact rfl) | ((with_reducible apply Step.len); exact rfl; (focus (assumption)); (focus (decide +kernel)); exact rfl) | ((with_reducible apply Step.nilp); exact rfl; exact rfl) | ((with_reducible apply Step.extract); exact rfl; exact rfl; exact rfl) | ((with_reducible apply Step.callR fit); exact rfl; exact Tryd.func17; exact rfl; exact rfl; exact (hR _)) | ((with_reducible apply Step.alloc 0); exact rfl; exact ze100; exact rfl; (focus (first | (simp only [List.nil_append, List.cons_append, List.set_cons_zero, List.set_cons_succ, iv_set, bv_set, iv_rep, bv_rep]; done) | (simp only [List.nil_append, List.cons_append, List.set_cons_zero, List.set_cons_succ, iv_set, bv_set, iv_rep, bv_rep]; rfl) | rfl))) | ((with_reducible apply Step.store (k := 0)); exact rfl; exact rfl; exact rfl; exact rfl; (focus (decide +kernel)); exact rfl; exact rfl; (focus (first | omega | (simp [iv, bv]; done) | (simp [iv, bv]; omega))); (focus (first | (simp only [List.nil_append, List.cons_append, List.set_cons_zero, List.set_cons_succ, iv_set, bv_set, iv_rep, bv_rep]; done) | (simp only [List.nil_append, List.cons_append, List.set_cons_zero, List.set_cons_succ, iv_set, bv_set, iv_rep, bv_rep]; rfl) | rfl)))) | (with_reducible refine AWo.nil ?_) | ((with_reducible apply AW.seq)) | ((with_reducible apply Then.n)) | ((with_reducible apply AW.regL)) | ((with_reducible apply AW.drawL fit); (focus (decide +kernel))) | ((with_reducible apply AW.skip)) | ((with_reducible apply AW.condT); exact rfl; (focus ((simp only [decide_eq_true_eq, decide_eq_false_iff_not, Bool.not_eq_true', Bool.not_eq_false', Bool.not_true, Bool.not_false]; first | assumption | omega)))) | ((with_reducible apply AW.condF); exact rfl; (focus (rfl)))))
    (refine AW.ret ?_; (repeat (first | refine Then.r ?_ | refine InBlk.r ?_)))
    obtain ⟨N, hN⟩ := hm1
    exact ⟨_, rfl, by rw [e]; rfl, N ++ _, by rw [hN, List.append_assoc]⟩
  have hat := at_lt hin.2.2.2 hin.2.1 (show (wholeR B).ok (bw B) (bh B) by simp only [R4.ok, wholeR]; omega)
  (repeat (first | (with_reducible refine AWo.cons ?_) | ((with_reducible refine Step.id ?_); first | ((with_reducible apply Step.load); exact rfl; (focus (decide +kernel)); exact rfl; (focus (exact Rd.new rfl rfl))) | ((with_reducible apply Step.ptrNot); exact rfl; exact rfl; exact un100; exact rfl) | ((with_reducible apply Step.alloc 0); exact rfl; exact ze100; exact rfl; (focus (first | (simp only [List.nil_append, List.cons_append, List.set_cons_zero, List.set_cons_succ, iv_set, bv_set, iv_rep, bv_rep]; done) | (simp only [List.nil_append, List.cons_append, List.set_cons_zero, List.set_cons_succ, iv_set, bv_set, iv_rep, bv_rep]; rfl) | rfl))) | ((with_reducible apply Step.store (k := 0)); exact rfl; exact rfl; exact rfl; exact rfl; (focus (decide +kernel)); exact rfl; exact rfl; (focus (first | omega | (simp [iv, bv]; done) | (simp [iv, bv]; omega))); (focus (first | (simp only [List.nil_append, List.cons_append, List.set_cons_zero, List.set_cons_succ, iv_set, bv_set, iv_rep, bv_rep]; done) | (simp only [List.nil_append, List.cons_append, List.set_cons_zero, List.set_cons_succ, iv_set, bv_set, iv_rep, bv_rep]; rfl) | rfl)))) | (with_reducible refine AWo.nil ?_) | ((fail_if_success (with_reducible refine AW.atR (id := 4) ?_)); ((with_reducible apply AW.seq))) | ((with_reducible apply Then.n)) | ((with_reducible apply AW.regL)) | ((with_reducible apply AW.skip)) | ((with_reducible apply AW.condF); exact rfl; (focus (rfl)))))
  have z1 : BoardAt (m1 ++ [some { cells := [.pointer (some ⟨p, 0, none⟩)] }]) p B K := hB.old _
  have z2 : Rd (m1 ++ [some { cells := [.pointer (some ⟨p, 0, none⟩)] }]) (m.length + 0) 0 (.slice q1 t.length c1) := htv.old _
  have z3 : Rd (m1 ++ [some { cells := [.pointer (some ⟨p, 0, none⟩)] }]) (m1.length + 0) 0 (.pointer (some ⟨p, 0, none⟩)) := Rd.new rfl rfl
  have z4 : Ints (m1 ++ [some { cells := [.pointer (some ⟨p, 0, none⟩)] }]) (.slice q1 t.length c1) t := ht1.old _
  have z5 : ∀ k, k < t.length → Rd (m1 ++ [some { cells := [.pointer (some ⟨p, 0, none⟩)] }]) A (O + k) (.int .i64 (t.getD k 0)) := fun k hk => (rd1 k hk).old _
  have z6 : ∃ N, (m1 ++ [some ({ cells := [.pointer (some ⟨p, 0, none⟩)] } : Blk)]) = m ++ N := by
    obtain ⟨N, hN⟩ := hm1
    exact ⟨N ++ _, by rw [hN, List.append_assoc]⟩
  have z7 : m1.length + 1 = (m1 ++ [some ({ cells := [.pointer (some ⟨p, 0, none⟩)] } : Blk)]).length := by simp
  refine AW.rebase ?_
  change AW _ _ (m1 ++ [some { cells := [.pointer (some ⟨p, 0, none⟩)] }]) _ _ ((m1 ++ [some { cells := [.pointer (some ⟨p, 0, none⟩)] }]) ++ []) _
  generalize (m1 ++ [some ({ cells := [.pointer (some ⟨p, 0, none⟩)] } : Blk)]) = Mb at *
  have wl : Low Mb.length (.slice q1 t.length c1) := Low.of_sl sl (by omega)
  have w5 : Low Mb.length (.pointer (some ⟨m.length + 0, 0, none⟩)) := Low.ptr (by omega)
  have w9 : Low Mb.length (.pointer (some ⟨m1.length + 0, 0, none⟩)) := Low.ptr (by omega)
  have a5 : m.length + 0 < Mb.length := by omega
  have a9 : m1.length + 0 < Mb.length := by omega
  generalize m.length + 0 = p5 at *
  generalize m1.length + 0 = p9 at *
  clear hB htv ht1 rd1 hm1 tw th la1
  have tw := z1.w
  have th := z1.h
  (repeat (first | (with_reducible refine AWo.cons ?_) | ((with_reducible refine Step.id ?_); first | ((with_reducible apply Step.move); exact rfl; exact rfl) | ((with_reducible apply Step.assign); exact rfl; exact rfl) | ((with_reducible apply Step.load); exact rfl; (focus (decide +kernel)); exact rfl; (focus (exact Rd.old _ (by assumption)))) | ((with_reducible apply Step.field (k := 2)); exact rfl; (focus (decide +kernel)); exact rfl) | ((with_reducible apply Step.field (k := 3)); exact rfl; (focus (decide +kernel)); exact rfl) | ((with_reducible apply Step.neq); exact rfl; exact rfl; exact rfl) | ((with_reducible apply Step.len); exact rfl; (focus (assumption)); (focus (decide +kernel)); exact rfl) | ((with_reducible apply Step.nilp); exact rfl; exact rfl) | ((with_reducible apply Step.extract); exact rfl; exact rfl; exact rfl) | ((with_reducible apply Step.callR fit); exact rfl; exact Tryd.func17; exact rfl; exact rfl; exact (hR _))) | (with_reducible refine AWo.nil ?_) | ((with_reducible apply AW.seq)) | ((with_reducible apply Then.n)) | ((with_reducible apply AW.regL)) | ((with_reducible apply AW.block)) | ((with_reducible apply AW.drawL fit); (focus (decide +kernel))) | ((with_reducible apply AW.skip)) | ((with_reducible apply AW.condF); exact rfl; (focus ((simp only [decide_eq_true_eq, decide_eq_false_iff_not, Bool.not_eq_true', Bool.not_eq_false', Bool.not_true, Bool.not_false]; first | assumption | omega))))))
  rw [List.append_nil]
  refine AW.rebase ?_
  refine AW.loopT (fun n t' L => ∃ k : Nat, n = t.length - k ∧ k ≤ t.length ∧ L = [] ∧ (∀ j, j < k → 0 ≤ t.getD j 0) ∧
    t' = [(5, .pointer (some ⟨p5, 0, none⟩)), (9, .pointer (some ⟨p9, 0, none⟩)), (36, .slice q1 t.length c1), (37, .int .i64 (t.length : Nat)), (38, .int .i64 (k : Nat))])
    ⟨_, _, _, (Or.inl ⟨rfl, (by repeat (first | exact trivial | (refine And.intro rfl ?_)))⟩), 0, rfl, Nat.zero_le _, rfl, fun j hj => by omega, rfl⟩ ?_
  rintro n t' L ⟨k, rfl, hk2, rfl, hneg, rfl⟩
  rcases Nat.lt_or_ge k t.length with hkl | hkl
  · have hx := z5 k hkl
    by_cases hn : t.getD k 0 < 0
    · have e : checkM B K t = (0, false, 0) := by
        have : boundB (leafM B K) (bw B) (bh B) t = false := by
          rw [Bool.eq_false_iff]
          intro hc
          simp only [boundB, Bool.and_eq_true, List.all_eq_true, decide_eq_true_eq] at hc
          have := hc.1 (t.getD k 0) (by rw [getD_in _ _ hkl]; exact List.getElem_mem hkl)
          omega
        simp [checkM, hg, hl, this]
      (repeat (first | (with_reducible refine AWo.cons ?_) | ((with_reducible refine Step.id ?_); first | ((with_reducible apply Step.move); exact rfl; exact rfl) | ((with_reducible apply Step.assign); exact rfl; exact rfl) | ((with_reducible apply Step.load); exact rfl; (focus (decide +kernel)); exact rfl; (focus (exact Rd.old _ (by assumption)))) | ((with_reducible apply Step.ix1); exact rfl; (focus (assumption)); exact rfl; (focus (decide +kernel)); exact rfl; (focus (omega))) | ((with_reducible apply Step.lss); exact rfl; exact rfl; exact rfl)) | (with_reducible refine AWo.nil ?_) | ((with_reducible apply AW.seq)) | ((with_reducible apply Then.n)) | ((with_reducible apply AW.regL)) | ((with_reducible apply AW.block)) | ((with_reducible apply AW.skip)) | ((with_reducible apply AW.condT); exact rfl; (focus ((simp only [decide_eq_true_eq, decide_eq_false_iff_not, Bool.not_eq_true', Bool.not_eq_false', Bool.not_true, Bool.not_false]; first | assumption | omega))))))
      (refine AW.ret ?_; (repeat (first | refine Then.r ?_ | refine InBlk.r ?_)))
      obtain ⟨N, hN⟩ := z6
      exact ⟨_, rfl, by rw [e]; rfl, N ++ _, by rw [hN, List.append_assoc]⟩
    · (repeat (first | (with_reducible refine AWo.cons ?_) | ((with_reducible refine Step.id ?_); first | ((with_reducible apply Step.move); exact rfl; exact rfl) | ((with_reducible apply Step.assign); exact rfl; exact rfl) | ((with_reducible apply Step.load); exact rfl; (focus (decide +kernel)); exact rfl; (focus (exact Rd.old _ (by assumption)))) | ((with_reducible apply Step.ix1); exact rfl; (focus (assumption)); exact rfl; (focus (decide +kernel)); exact rfl; (focus (omega))) | ((with_reducible apply Step.add); exact rfl; exact rfl; (focus (omega)); exact rfl) | ((with_reducible apply Step.lss); exact rfl; exact rfl; exact rfl)) | (with_reducible refine AWo.nil ?_) | ((with_reducible apply AW.seq)) | ((with_reducible apply Then.n)) | ((with_reducible apply AW.regL)) | ((with_reducible apply AW.block)) | ((with_reducible apply InBlk.n)) | ((with_reducible apply AW.skip)) | ((with_reducible apply AW.condT); exact rfl; (focus ((simp only [decide_eq_true_eq, decide_eq_false_iff_not, Bool.not_eq_true', Bool.not_eq_false', Bool.not_true, Bool.not_false]; first | assumption | omega)))) | ((with_reducible apply AW.condF); exact rfl; (focus ((simp only [decide_eq_true_eq, decide_eq_false_iff_not, Bool.not_eq_true', Bool.not_eq_false', Bool.not_true, Bool.not_false]; first | assumption | omega))))))
      exact ⟨_, _, _, by omega, (Or.inl ⟨rfl, (by repeat (first | exact trivial | (refine And.intro rfl ?_)))⟩), k + 1, rfl, by omega, rfl, fun j hj => by
        rcases Nat.lt_succ_iff_lt_or_eq.1 hj with h | rfl
        · exact hneg j h
        · omega, rfl⟩
  · obtain rfl : k = t.length := by omega
    have hall : ∀ i, 0 ≤ t.getD i 0 ∧ t.getD i 0 ≤ 9223372036854775807 := fun i => by
      rcases Nat.lt_or_ge i t.length with h | h
      · exact ⟨hneg i h, (h64 i).2⟩
      · simp [List.getD_eq_getElem?_getD, h]
    have hneg' : (t.all fun x => decide (0 ≤ x)) = true := by
      rw [List.all_eq_true]
      intro x hx
      obtain ⟨i, hi, rfl⟩ := List.getElem_of_mem hx
      have := hneg i hi
      rw [getD_in _ _ hi] at this
      exact decide_eq_true this
    (repeat (first | (with_reducible refine AWo.cons ?_) | ((with_reducible refine Step.id ?_); first | ((with_reducible apply Step.load); exact rfl; (focus (decide +kernel)); exact rfl; (focus (exact Rd.old _ (by assumption)))) | ((with_reducible apply Step.lss); exact rfl; exact rfl; exact rfl) | ((with_reducible apply Step.fn); exact rfl; exact rfl; exact rfl) | ((with_reducible apply Step.alloc 0); exact rfl; exact ze4; exact rfl; (focus (first | (simp only [List.nil_append, List.cons_append, List.set_cons_zero, List.set_cons_succ, iv_set, bv_set, iv_rep, bv_rep]; done) | (simp only [List.nil_append, List.cons_append, List.set_cons_zero, List.set_cons_succ, iv_set, bv_set, iv_rep, bv_rep]; rfl) | rfl))) | ((with_reducible apply Step.store (k := 0)); exact rfl; exact rfl; exact rfl; exact rfl; (focus (decide +kernel)); exact rfl; exact rfl; (focus (first | omega | (simp [iv, bv]; done) | (simp [iv, bv]; omega))); (focus (first | (simp only [List.nil_append, List.cons_append, List.set_cons_zero, List.set_cons_succ, iv_set, bv_set, iv_rep, bv_rep]; done) | (simp only [List.nil_append, List.cons_append, List.set_cons_zero, List.set_cons_succ, iv_set, bv_set, iv_rep, bv_rep]; rfl) | rfl)))) | (with_reducible refine AWo.nil ?_) | ((with_reducible apply AW.seq)) | ((with_reducible apply Then.n)) | ((with_reducible apply AW.regL)) | ((with_reducible apply AW.exit)) | ((with_reducible apply InBlk.hit)) | ((with_reducible apply Then.e)) | ((with_reducible apply AW.condF); exact rfl; (focus ((simp only [decide_eq_true_eq, decide_eq_false_iff_not, Bool.not_eq_true', Bool.not_eq_false', Bool.not_true, Bool.not_false]; first | assumption | omega))))))
    have hE : ∀ M0 : AM, (∃ N, M0 = Mb ++ N) → M0.length = Mb.length + 1 → Rd M0 p5 0 (.slice q1 t.length c1) → Rd M0 p9 0 (.pointer (some ⟨p, 0, none⟩)) →
        ACall Tryd.prog 69 #[.pointer (some ⟨p, 0, none⟩), .func (.func 79) #[] #[.pointer (some ⟨Mb.length + 0, 0, none⟩), .pointer (some ⟨p5, 0, none⟩), .pointer (some ⟨p9, 0, none⟩)]] (MC M0 (Mb.length + 0) [.bool true]) (Ret (.tuple #[]) (MC M0 (Mb.length + 0) [.bool (fW (fun r b => b && okR (leafM B K) (bw B) (bh B) t r) (bw B) (bh B) (bw B) true)])) := fun M0 hN hlM r1 r2 =>
      each_ok (m0 := M0) (fun b => MC M0 (Mb.length + 0) [.bool b]) (fun r b => b && okR (leafM B K) (bw B) (bh B) t r) (fun _ _ => True) (caps := #[.pointer (some ⟨Mb.length + 0, 0, none⟩), .pointer (some ⟨p5, 0, none⟩), .pointer (some ⟨p9, 0, none⟩)]) Tryd.func79 rfl
      (fun v => by
        obtain ⟨N, rfl⟩ := hN
        obtain ⟨N', hN'⟩ := set_high (m0 := Mb) (N := N) (a := Mb.length + 0) (by omega) (some { cells := [.bool v] })
        unfold MC
        rw [hN']
        exact z1.old _) hg ⟨fun i j y x s _ _ _ _ _ => trivial⟩
      (fun i j y x b T b1 b2 b3 b4 _ => checkc_ok (m := M0) (m1 := Mb) hN z1 hg (by omega) (by omega) r1 r2 (by omega) (by omega) z4 hl hall (step_ok b1 b2 b3 b4) b)
      (fun v => MC.len) (fun v v' j b h => by
        have := MC.cut (m := M0) (c := [.bool v]) (c' := [.bool v']) (q := Mb.length + 0) (by omega) (fun x hx => by simp at hx; subst hx; rfl) [] [] (fun b hb => by simp at hb) M0.length j b (by simpa using h)
        simpa using this) (Low.func (fun v hv => by
        simp only [List.mem_cons, List.not_mem_nil, or_false] at hv
        rcases hv with rfl | rfl | rfl
        · exact Low.ptr (by omega)
        · exact Low.ptr (by omega)
        · exact Low.ptr (by omega))) true trivial
    have hE := hE (Mb ++ [some { cells := [.bool true] }]) ⟨_, rfl⟩ (by simp) (z2.old _) (z3.old _)
    have hMM : ∀ c, MC (Mb ++ [some { cells := [.bool true] }]) (Mb.length + 0) c = Mb ++ [some { cells := c }] := fun c => by
      unfold MC
      rw [List.set_append_right _ _ (by omega), show Mb.length + 0 - Mb.length = 0 by omega]
      rfl
    simp only [hMM] at hE
    rw [okFin] at hE
    ((with_reducible apply Step.callM fit); exact rfl; exact Tryd.func69; exact rfl; exact rfl; exact hE)
    have hbd : boundB (leafM B K) (bw B) (bh B) t = (allR (bw B) (bh B) (bh B)).all fun r => okR (leafM B K) (bw B) (bh B) t r := by unfold boundB; rw [hneg', Bool.true_and]
    cases hfin : (allR (bw B) (bh B) (bh B)).all fun r => okR (leafM B K) (bw B) (bh B) t r with
    | false =>
      have e : checkM B K t = (0, false, 0) := by simp [checkM, hg, hl, hbd, hfin]
      (repeat (first | (with_reducible refine AWo.cons ?_) | ((with_reducible refine Step.id ?_); first | ((with_reducible apply Step.assign); exact rfl; exact rfl) | ((with_reducible apply Step.load); exact rfl; (focus (decide +kernel)); exact rfl; (focus (exact Rd.new rfl rfl))) | ((with_reducible apply Step.not); exact rfl; exact rfl)) | (with_reducible refine AWo.nil ?_) | ((with_reducible apply AW.seq)) | ((with_reducible apply Then.n)) | ((with_reducible apply AW.regL)) | ((with_reducible apply AW.condT); exact rfl; (focus (rfl)))))
      (refine AW.ret ?_; (repeat (first | refine Then.r ?_ | refine InBlk.r ?_)))
      obtain ⟨N, hN⟩ := z6
      exact ⟨_, rfl, by rw [e]; rfl, N ++ _, by rw [hN, List.append_assoc]⟩
    | true =>
      have e : checkM B K t = (tg (bw B) (bh B) t (wholeR B), true, 0) := by simp [checkM, hg, hl, hbd, hfin]
      (repeat (first | (with_reducible refine AWo.cons ?_) | ((with_reducible refine Step.id ?_); first | ((with_reducible apply Step.load); exact rfl; (focus (decide +kernel)); exact rfl; (focus (exact Rd.new rfl rfl))) | ((with_reducible apply Step.not); exact rfl; exact rfl)) | (with_reducible refine AWo.nil ?_) | ((fail_if_success (with_reducible refine AW.atR (id := 17) ?_)); ((with_reducible apply AW.seq))) | ((with_reducible apply Then.n)) | ((with_reducible apply AW.regL)) | ((with_reducible apply AW.skip)) | ((with_reducible apply AW.condF); exact rfl; (focus (rfl)))))
      have w1 := fun T => whole_ok (z1.old T)
      have nn := fun T => num_ok (m := T) hin.2.2.2 hin.2.1 (show (wholeR B).ok (bw B) (bh B) by simp only [R4.ok, wholeR]; omega)
      change ∀ T, ACall Tryd.prog 67 _ _ (Ret (.agg (wholeR B).rc.cells.toArray) _) at w1
      change ∀ T, ACall Tryd.prog 63 #[_, _, .agg (wholeR B).rc.cells.toArray] _ _ at nn
      have x4 := z5 _ (by rw [hl]; exact hat)
      refine AW.seq ?_
      refine AW.flatN fit [(5, .pointer (some ⟨p5, 0, none⟩)), (9, .pointer (some ⟨p9, 0, none⟩))] [(6, .int .i64 (t.getD ((wholeR B).at (bw B) (bh B)) 0)), (7, .bool true), (8, .int .i64 0)] [5, 9] [[], [], [0], [0], [0], [], [0], [0], [0], [], [0], [6, 2, 0, 0], [11, 0], [0], [0, 2, 13, 12, 11, 10, 9, 8, 7, 6, 5, 4, 3, 2, 1, 0], [0, 14, 13, 12, 11, 10, 9, 8, 7, 6, 5, 4, 3, 2, 1, 0], [0, 15, 14, 13, 12, 11, 10, 9, 8, 7, 6, 5, 4, 3, 2, 1, 0]] (by repeat (first | exact trivial | (refine And.intro rfl ?_))) rfl (by decide +kernel) ?_ ?_
      · (repeat (first | ((with_reducible refine Step.id ?_); first | ((with_reducible apply Step.assign); exact rfl; exact rfl) | ((with_reducible apply Step.load); exact rfl; (focus (decide +kernel)); exact rfl; (focus (exact Rd.old _ (by assumption)))) | ((with_reducible apply Step.ix1); exact rfl; (focus (assumption)); exact rfl; (focus (decide +kernel)); exact rfl; (focus (omega))) | ((with_reducible apply Step.field (k := 2)); exact rfl; (focus (decide +kernel)); exact rfl) | ((with_reducible apply Step.field (k := 3)); exact rfl; (focus (decide +kernel)); exact rfl) | ((with_reducible apply Step.nilp); exact rfl; exact rfl) | ((with_reducible apply Step.callR fit); exact rfl; exact Tryd.func67; exact rfl; exact rfl; exact (w1 _)) | ((with_reducible apply Step.callR fit); exact rfl; exact Tryd.func63; exact rfl; exact rfl; exact (nn _))) | (apply AWf.cons; exact rfl) | exact ⟨put_same _ _ _, rfl⟩ | ((with_reducible apply AWf.nil))))
        exact (by repeat (first | exact trivial | (refine And.intro rfl ?_)))
      intro t2 ht2
      refine Then.n ?_
      refine AW.weak ht2 ?_
      (refine AW.ret ?_; (repeat (first | refine Then.r ?_ | refine InBlk.r ?_)))
      obtain ⟨N, hN⟩ := z6
      exact ⟨_, rfl, by rw [e]; rfl, N ++ _, by rw [hN, List.append_assoc]⟩
end Go.Proofs.YtibhgdglbillaaaDoor.Abs
