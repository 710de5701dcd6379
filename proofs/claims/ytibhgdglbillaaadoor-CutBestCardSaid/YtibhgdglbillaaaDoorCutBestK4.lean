/- Proved here: what the proof of CutBest rests on, part 4 of 5. Conditions: those that each theorem names. -/
import Derived.Test.YtibhgdglbillaaaDoorCutBestK3
namespace Go.Proofs.YtibhgdglbillaaaDoor.Abs
set_option linter.unusedSimpArgs false
set_option linter.unusedVariables false
open Go.RowKit
open Go.Proofs.YtibhgdglbillaaaDoor.Sim
open Go.Proofs
theorem ze47 : zeroB Tryd.prog 47 = some #[.slice none 0 0] := by kernel_rfl
theorem bl23w {c d : Int} : abuild Tryd.prog 23 [(2, .int .i64 c), (3, .int .i64 d)] = some (.agg #[.int .i64 0, .int .i64 0, .int .i64 c, .int .i64 d]) := by kernel_rfl
set_option maxRecDepth 100000 in
theorem whole_ok {m : AM} {p : Nat} {B : Brd} {K : List Kd} (hB : BoardAt m p B K) : ACall Tryd.prog 67 #[.pointer (some ⟨p, 0, none⟩)] m (Ret (wholeR B).rc.v m) := by
  refine ACall.drop (Ren.aggI [_, _, _, _]) ?_
  have tw := hB.w
  have th := hB.h
  change ACall Tryd.prog 67 _ m fun v m' => v = .agg #[.int .i64 0, .int .i64 0, .int .i64 (bw B : Nat), .int .i64 (bh B : Nat)] ∧ _
  refine ACall.start Tryd.func67 rfl rfl ?_
  (repeat (first | (with_reducible refine AWo.cons ?_) | ((with_reducible refine Step.id ?_); first | ((with_reducible apply Step.move); exact rfl; exact rfl) | ((with_reducible apply Step.load); exact rfl; (focus (decide +kernel)); exact rfl; (focus (exact Rd.old _ (by assumption)))) | ((with_reducible apply Step.field (k := 2)); exact rfl; (focus (decide +kernel)); exact rfl) | ((with_reducible apply Step.field (k := 3)); exact rfl; (focus (decide +kernel)); exact rfl) | ((with_reducible apply Step.nilp); exact rfl; exact rfl) | ((with_reducible apply Step.alloc 0); exact rfl; exact ze23; exact rfl; (focus (first | (simp only [List.nil_append, List.cons_append, List.set_cons_zero, List.set_cons_succ, iv_set, bv_set, iv_rep, bv_rep]; done) | (simp only [List.nil_append, List.cons_append, List.set_cons_zero, List.set_cons_succ, iv_set, bv_set, iv_rep, bv_rep]; rfl) | rfl))) | ((with_reducible apply Step.storeA (k := 0) (n := 4)); exact rfl; exact rfl; exact rfl; exact rfl; (focus (decide +kernel)); exact rfl; (focus (kernel_rfl)); exact rfl; (focus (first | (simp only [List.nil_append, List.cons_append, List.set_cons_zero, List.set_cons_succ, iv_set, bv_set, iv_rep, bv_rep]; done) | (simp only [List.nil_append, List.cons_append, List.set_cons_zero, List.set_cons_succ, iv_set, bv_set, iv_rep, bv_rep]; rfl) | rfl))) | ((with_reducible apply Step.build); exact rfl; exact bl23w; exact rfl)) | (with_reducible refine AWo.nil ?_) | ((with_reducible apply AW.seq)) | ((with_reducible apply Then.n)) | ((with_reducible apply AW.regL)) | ((with_reducible apply AW.drawL fit); (focus (decide +kernel)))))
  (refine AW.ret ?_; (repeat (first | refine Then.r ?_ | refine InBlk.r ?_)))
  exact ⟨_, ares_cell rfl rfl (by decide +kernel) (n := 4) (by decide +kernel) (RdL.new rfl rfl) rfl rfl, rfl, _, rfl⟩
theorem total_rects {B : Brd} {K : List Kd} (hg : goodB B K = true) : rectsM (bw B : Nat) (bh B : Nat) = (((total (bw B) (bh B) : Nat) : Int), 0) := by
  have hgb : boardB B = true := by simp only [goodB, Bool.and_eq_true] at hg; exact hg.1
  have hin := good_in hgb
  unfold rectsM
  rw [if_pos (by simp [sidesB]; omega)]
  unfold total t2
  simp only [Int.natCast_mul, Int.natCast_ediv, Int.natCast_add]
  rfl
set_option maxHeartbeats 8000000 in
set_option maxRecDepth 100000 in
theorem best_ok {m : AM} {p : Nat} {B : Brd} {K : List Kd} (hB : BoardAt m p B K) (hg : goodB B K = true) :
    ACall Tryd.prog 66 #[.pointer (some ⟨p, 0, none⟩)] m (More (fun m' v => ∃ q, m.length ≤ q ∧ v = .slice (some ⟨q, 0, none⟩) (total (bw B) (bh B)) (total (bw B) (bh B)) ∧ m'[q]? = some (some { cells := iv (boardT B K) })) m) := by
  have hgb : boardB B = true := by simp only [goodB, Bool.and_eq_true] at hg; exact hg.1
  have hin := good_in hgb
  have htl := total_le hin.2.2.2 hin.2.1
  have tw := hB.w
  have th := hB.h
  have hp := hB.lt
  have hR := fun m => Rects_ok (m := m) (bw B : Nat) (bh B : Nat)
  rw [total_rects hg] at hR
  refine ACall.start Tryd.func66 rfl rfl ?_
  (repeat (first | (with_reducible refine AWo.cons ?_) | ((with_reducible refine Step.id ?_); first | ((with_reducible apply Step.move); exact rfl; exact rfl) | ((with_reducible apply Step.assign); exact rfl; exact rfl) | ((with_reducible apply Step.load); exact rfl; (focus (decide +kernel)); exact rfl; (focus (first | exact Rd.new rfl rfl | exact Rd.old _ (by assumption)))) | ((with_reducible apply Step.field (k := 2)); exact rfl; (focus (decide +kernel)); exact rfl) | ((with_reducible apply Step.field (k := 3)); exact rfl; (focus (decide +kernel)); exact rfl) | ((with_reducible apply Step.nilp); exact rfl; exact rfl) | ((with_reducible apply Step.extract); exact rfl; exact rfl; exact rfl) | ((with_reducible apply Step.fn); exact rfl; exact rfl; exact rfl) | ((with_reducible apply Step.callR fit); exact rfl; exact Tryd.func17; exact rfl; exact rfl; exact (hR _)) | ((with_reducible apply Step.box 0); exact rfl; exact rfl; (focus (kernel_rfl)); exact rfl; (focus (first | (simp only [List.nil_append, List.cons_append, List.set_cons_zero, List.set_cons_succ, iv_set, bv_set, iv_rep, bv_rep]; done) | (simp only [List.nil_append, List.cons_append, List.set_cons_zero, List.set_cons_succ, iv_set, bv_set, iv_rep, bv_rep]; rfl) | rfl))) | ((with_reducible apply Step.make1 1); exact rfl; exact rfl; exact rfl; exact el47; (focus (omega)); exact rfl; (focus (first | (simp only [List.nil_append, List.cons_append, List.set_cons_zero, List.set_cons_succ, iv_set, bv_set, iv_rep, bv_rep]; done) | (simp only [List.nil_append, List.cons_append, List.set_cons_zero, List.set_cons_succ, iv_set, bv_set, iv_rep, bv_rep]; rfl) | rfl))) | ((with_reducible apply Step.alloc 2); exact rfl; exact ze47; exact rfl; (focus (first | (simp only [List.nil_append, List.cons_append, List.set_cons_zero, List.set_cons_succ, iv_set, bv_set, iv_rep, bv_rep]; done) | (simp only [List.nil_append, List.cons_append, List.set_cons_zero, List.set_cons_succ, iv_set, bv_set, iv_rep, bv_rep]; rfl) | rfl))) | ((with_reducible apply Step.store (k := 2)); exact rfl; exact rfl; exact rfl; exact rfl; (focus (decide +kernel)); exact rfl; exact rfl; (focus (first | omega | (simp [iv, bv]; done) | (simp [iv, bv]; omega))); (focus (first | (simp only [List.nil_append, List.cons_append, List.set_cons_zero, List.set_cons_succ, iv_set, bv_set, iv_rep, bv_rep]; done) | (simp only [List.nil_append, List.cons_append, List.set_cons_zero, List.set_cons_succ, iv_set, bv_set, iv_rep, bv_rep]; rfl) | rfl)))) | (with_reducible refine AWo.nil ?_) | ((with_reducible apply AW.seq)) | ((with_reducible apply Then.n)) | ((with_reducible apply AW.regL)) | ((with_reducible apply AW.drawL fit); (focus (decide +kernel)))))
  have hMM : ∀ X Y Z : Option Blk, ∀ v, MI (m ++ [X, Y, Z]) (m.length + 1) v = m ++ [X, some { cells := iv v }, Z] := fun X Y Z v => by
    unfold MI
    rw [List.set_append_right _ _ (by omega), show m.length + 1 - m.length = 1 by omega]
    rfl
  have h0 := hMM (some { cells := [.pointer (some ⟨p, 0, none⟩)] }) (some { cells := iv (List.replicate (total (bw B) (bh B)) 0) }) (some { cells := [.slice (some ⟨m.length + 1, 0, none⟩) (total (bw B) (bh B)) (total (bw B) (bh B))] })
  have hE : ∀ M0 : AM, (∃ N, M0 = m ++ N) → M0.length = m.length + 3 → Rd M0 (m.length + 0) 0 (.pointer (some ⟨p, 0, none⟩)) → Rd M0 (m.length + 2) 0 (.slice (some ⟨m.length + 1, 0, none⟩) (total (bw B) (bh B)) (total (bw B) (bh B))) →
      ACall Tryd.prog 69 #[.pointer (some ⟨p, 0, none⟩), .func (.func 101) #[] #[.pointer (some ⟨m.length + 0, 0, none⟩), .pointer (some ⟨m.length + 2, 0, none⟩)]] (MI M0 (m.length + 1) (List.replicate (total (bw B) (bh B)) 0)) (Ret (.tuple #[]) (MI M0 (m.length + 1) (boardT B K))) := fun M0 hN hl r1 r2 =>
    each_ok (m0 := M0) (fun v => MI M0 (m.length + 1) v) (bstep (leafM B K) (bw B) (bh B)) (TabI (V (leafM B K)) (bw B) (bh B)) (caps := #[.pointer (some ⟨m.length + 0, 0, none⟩), .pointer (some ⟨m.length + 2, 0, none⟩)]) Tryd.func101 rfl
    (fun v => by
      obtain ⟨N, rfl⟩ := hN
      obtain ⟨N', hN'⟩ := set_high (m0 := m) (N := N) (a := m.length + 1) (by omega) (some { cells := iv v })
      unfold MI
      rw [hN']
      exact hB.old _) hg (bstep_each hin.2.2.2 hin.2.1)
    (fun i j y x v T b1 b2 b3 b4 hI => bestc_ok (m := M0) (m1 := m) (q := m.length + 1) (a1 := m.length + 0) (a2 := m.length + 2) hN hB hg (by omega) (by omega) r1 r2 (by omega) (by omega) b1 b2 b3 b4 hI)
    (fun v => MI.len) (fun v v' j b h => MI.flat (by omega) v v' _ j b h) (Low.func (fun v hv => by
      simp only [List.mem_cons, List.not_mem_nil, or_false] at hv
      rcases hv with rfl | rfl
      · exact Low.ptr (by omega)
      · exact Low.ptr (by omega))) (List.replicate (total (bw B) (bh B)) 0) TabI.zero
  have hE := hE _ ⟨_, rfl⟩ (by rw [List.length_append]; rfl) (Rd.new (b := { cells := [.pointer (some ⟨p, 0, none⟩)] }) rfl rfl) (Rd.new (L := [some { cells := [.pointer (some ⟨p, 0, none⟩)] }, some { cells := iv (List.replicate (total (bw B) (bh B)) 0) }, some { cells := [.slice (some ⟨m.length + 1, 0, none⟩) (total (bw B) (bh B)) (total (bw B) (bh B))] }]) rfl rfl)
  simp only [h0] at hE
  ((with_reducible apply Step.callM fit); exact rfl; exact Tryd.func69; exact rfl; exact rfl; exact hE)
  (repeat (first | (with_reducible refine AWo.cons ?_) | ((with_reducible refine Step.id ?_); first | ((with_reducible apply Step.assign); exact rfl; exact rfl) | ((with_reducible apply Step.load); exact rfl; (focus (decide +kernel)); exact rfl; (focus (exact Rd.new rfl rfl)))) | (with_reducible refine AWo.nil ?_) | ((with_reducible apply AW.seq)) | ((with_reducible apply Then.n)) | ((with_reducible apply AW.regL))))
  (refine AW.ret ?_; (repeat (first | refine Then.r ?_ | refine InBlk.r ?_)))
  exact ⟨_, rfl, _, rfl, m.length + 1, by omega, rfl, by rw [get_app]; rfl⟩
set_option maxHeartbeats 8000000 in
set_option maxRecDepth 100000 in
theorem Best_no {m : AM} {sv kv : Value} {B : Brd} {K : List Kd} (hs : Strs m sv B) (hk : Kds m kv K) (hg : goodB B K = false) :
    ACall Tryd.prog 22 #[sv, kv] m (Ret (.tuple #[.int .i64 0, .int .i64 2]) m) := by
  have hN := fun T => newBoard_no (hs.old T) (hk.old T) hg
  refine ACall.start Tryd.func22 rfl rfl ?_
  (repeat (first | (with_reducible refine AWo.cons ?_) | ((with_reducible refine Step.id ?_); first | ((with_reducible apply Step.move); exact rfl; exact rfl) | ((with_reducible apply Step.assign); exact rfl; exact rfl) | ((with_reducible apply Step.ptrNil); exact rfl; exact rfl; exact un100; exact rfl) | ((with_reducible apply Step.callR fit); exact rfl; exact Tryd.func65; exact rfl; exact rfl; exact (hN _))) | (with_reducible refine AWo.nil ?_) | ((with_reducible apply AW.seq)) | ((with_reducible apply Then.n)) | ((with_reducible apply AW.regL)) | ((with_reducible apply AW.condT); exact rfl; (focus (rfl)))))
  (refine AW.retD (l := [(4, _), (5, _)]) (by repeat (first | exact trivial | (refine And.intro ⟨rfl, by (exact .int _ _)⟩ ?_))) ?_; (repeat (first | refine Then.r ?_ | refine InBlk.r ?_)))
  exact ⟨_, rfl, rfl, rfl⟩
set_option maxHeartbeats 8000000 in
set_option maxRecDepth 100000 in
theorem Best_ok {m : AM} {sv kv : Value} {B : Brd} {K : List Kd} (hs : Strs m sv B) (hk : Kds m kv K) (hg : goodB B K = true) :
    ACall Tryd.prog 22 #[sv, kv] m (Ret (.tuple #[.int .i64 (bestM B K), .int .i64 0]) m) := by
  have hgb : boardB B = true := by simp only [goodB, Bool.and_eq_true] at hg; exact hg.1
  have hin := good_in hgb
  refine ACall.drop (Ren.tup2 (.int _ _) (.int _ _)) ?_
  refine ACall.start Tryd.func22 rfl rfl ?_
  (repeat (first | (with_reducible refine AWo.cons ?_) | ((with_reducible refine Step.id ?_); first | ((with_reducible apply Step.move); exact rfl; exact rfl) | ((with_reducible apply Step.assign); exact rfl; exact rfl)) | (with_reducible refine AWo.nil ?_) | ((with_reducible apply AW.seq)) | ((with_reducible apply Then.n)) | ((with_reducible apply AW.regL))))
  ((with_reducible apply Step.callX fit); exact rfl; exact Tryd.func65; exact rfl; exact rfl; exact (newBoard_ok (hs.old _) (hk.old _) hg))
  rintro v m1 ⟨N1, hN1⟩ ⟨p, hp, rfl, hB⟩
  have hok : (wholeR B).ok (bw B) (bh B) := by
    simp only [R4.ok, wholeR]
    omega
  have hat := at_lt hin.2.2.2 hin.2.1 hok
  have hlen : (boardT B K).length = total (bw B) (bh B) := (bestT_ok hin.2.2.2 hin.2.1).len
  have hb2 : ∀ T, ACall Tryd.prog 66 #[.pointer (some ⟨p, 0, none⟩)] (m1 ++ T) _ := fun T => best_ok (hB.old T) hg
  have w1 := fun T => whole_ok (hB.old T)
  have nn := fun T => num_ok (m := T) hin.2.2.2 hin.2.1 hok
  have tw := hB.w
  have th := hB.h
  change ∀ T, ACall Tryd.prog 67 _ _ (Ret (.agg (wholeR B).rc.cells.toArray) _) at w1
  have hrr : (wholeR B).rc = (wholeR B).rc := rfl
  change ∀ T, ACall Tryd.prog 63 #[_, _, .agg (wholeR B).rc.cells.toArray] _ _ at nn
  have hbm : bestM B K = (boardT B K).getD ((wholeR B).at (bw B) (bh B)) 0 := rfl
  rw [hbm]
  generalize (wholeR B).at (bw B) (bh B) = n at *
  clear hrr
  (repeat' (first | (with_reducible refine AWo.cons ?_) | ((with_reducible refine Step.id ?_); first | ((with_reducible apply Step.move); exact rfl; exact rfl) | ((with_reducible apply Step.assign); exact rfl; exact rfl) | ((with_reducible apply Step.load); exact rfl; (focus (decide +kernel)); exact rfl; (focus (exact Rd.old _ (by assumption)))) | ((with_reducible apply Step.field (k := 2)); exact rfl; (focus (decide +kernel)); exact rfl) | ((with_reducible apply Step.field (k := 3)); exact rfl; (focus (decide +kernel)); exact rfl) | ((with_reducible apply Step.ptrNot); exact rfl; exact rfl; exact un100; exact rfl) | ((with_reducible apply Step.nilp); exact rfl; exact rfl)) | (with_reducible refine AWo.nil ?_) | ((with_reducible apply AW.seq)) | ((with_reducible apply Then.n)) | ((with_reducible apply AW.regL)) | ((with_reducible apply AW.drawT fit (T := (.step 0 (.step 2 (.step 3 (.step 4 (.step 6 (.step 7 (.step 8 (.step 10 (.both (.step 1 (.both (.step 5 (.both (.step 9 (.step 11 (.step 12 (.step 13 (.step 14 (.step 15 (.step 16 .done))))))) (.step 11 (.step 9 (.step 12 (.step 13 (.step 14 (.step 15 (.step 16 .done))))))))) (.both (.step 9 (.both (.step 5 (.step 11 (.step 12 (.step 13 (.step 14 (.step 15 (.step 16 .done))))))) (.step 11 (.step 5 (.step 12 (.step 13 (.step 14 (.step 15 (.step 16 .done))))))))) (.step 11 (.step 5 (.step 9 (.step 12 (.step 13 (.step 14 (.step 15 (.step 16 .done))))))))))) (.both (.step 5 (.both (.step 1 (.both (.step 9 (.step 11 (.step 12 (.step 13 (.step 14 (.step 15 (.step 16 .done))))))) (.step 11 (.step 9 (.step 12 (.step 13 (.step 14 (.step 15 (.step 16 .done))))))))) (.step 9 (.step 1 (.step 11 (.step 12 (.step 13 (.step 14 (.step 15 (.step 16 .done)))))))))) (.step 9 (.both (.step 1 (.both (.step 5 (.step 11 (.step 12 (.step 13 (.step 14 (.step 15 (.step 16 .done))))))) (.step 11 (.step 5 (.step 12 (.step 13 (.step 14 (.step 15 (.step 16 .done))))))))) (.step 5 (.step 1 (.step 11 (.step 12 (.step 13 (.step 14 (.step 15 (.step 16 .done)))))))))))))))))))))); (focus (decide +kernel))) | ((with_reducible apply AWt.step); exact rfl) | ((with_reducible apply AW.skip)) | ((with_reducible apply AW.condF); exact rfl; (focus (rfl))) | refine AWt.both ?_ ?_))
  all_goals
    ((with_reducible apply Step.callX fit); exact rfl; exact Tryd.func66; exact rfl; exact rfl; exact (hb2 _))
    rintro v m2 ⟨N2, hN2⟩ ⟨q, hq, rfl, hqc⟩
    have x0 : ∀ T, BoardAt (m2 ++ T) p B K := fun T => by rw [hN2]; exact ((hB.old _).old _).old _
    have x1 := (x0 []).w
    have x2 := (x0 []).h
    rw [List.append_nil] at x1 x2
    have x3 := fun T => whole_ok (x0 T)
    have x4 := rd_iv hqc rfl (k := n) (by omega)
    have x5 : ∃ N, m2 = m ++ N := ⟨N1 ++ N2, by rw [hN2, hN1]; simp⟩
    change ∀ T, ACall Tryd.prog 67 _ _ (Ret (.agg (wholeR B).rc.cells.toArray) _) at x3
    clear hN2 hq hqc
    (repeat' (first | ((with_reducible refine Step.id ?_); first | ((with_reducible apply Step.assign); exact rfl; exact rfl) | ((with_reducible apply Step.load); exact rfl; (focus (decide +kernel)); exact rfl; (focus (exact Rd.old _ (by assumption)))) | ((with_reducible apply Step.ix1z); exact rfl; (focus (exact Sl.mk (by omega))); exact rfl; (focus (decide +kernel)); exact rfl; (focus (omega))) | ((with_reducible apply Step.callR fit); exact rfl; exact Tryd.func67; exact rfl; exact rfl; exact (x3 _)) | ((with_reducible apply Step.callR fit); exact rfl; exact Tryd.func63; exact rfl; exact rfl; exact (nn _))) | ((with_reducible apply Then.n)) | ((with_reducible apply AWt.step); exact rfl) | ((with_reducible apply AWt.done)) | refine AWt.both ?_ ?_))
    all_goals
      (refine AW.ret ?_; (repeat (first | refine Then.r ?_ | refine InBlk.r ?_)))
      obtain ⟨N3, hN3⟩ := x5
      exact ⟨_, rfl, rfl, N3 ++ [], by rw [hN3, List.append_assoc]⟩
end Go.Proofs.YtibhgdglbillaaaDoor.Abs
namespace Go.Proofs.YtibhgdglbillaaaDoor.Abs
set_option linter.unusedSimpArgs false
set_option linter.unusedVariables false
open Go.RowKit
open Go.Proofs.YtibhgdglbillaaaDoor.Sim
open Go.Proofs
theorem bs30 {m : AM} {k : Nat} {a b : ByteArray} : abuildSlice Tryd.prog m k 30 2 [(0, .string a), (1, .string b)] = some (.slice (some ⟨k, 0, none⟩) 2 2, m.set k (some { cells := [.string a, .string b] })) := by kernel_rfl
theorem bl99 {a b c d : Int} : abuild Tryd.prog 99 [(0, .int .i64 a), (1, .int .i64 b), (2, .int .i64 c), (3, .int .i64 d)] = some (.agg #[.int .i64 a, .int .i64 b, .int .i64 c, .int .i64 d, .bool false]) := by kernel_rfl
theorem bs35 {m : AM} {k : Nat} {a b c d a' b' c' d' : Int} {t t' : Bool} : abuildSlice Tryd.prog m k 35 2 [(0, .agg #[.int .i64 a, .int .i64 b, .int .i64 c, .int .i64 d, .bool t]), (1, .agg #[.int .i64 a', .int .i64 b', .int .i64 c', .int .i64 d', .bool t'])] = some (.slice (some ⟨k, 0, none⟩) 2 2, m.set k (some { cells := [.int .i64 a, .int .i64 b, .int .i64 c, .int .i64 d, .bool t, .int .i64 a', .int .i64 b', .int .i64 c', .int .i64 d', .bool t'] })) := by kernel_rfl
def b10 : ByteArray := ⟨#[49, 48]⟩
def b11 : ByteArray := ⟨#[49, 49]⟩
def awB : Brd := [b10, b11]
def awK : List Kd := [⟨2, 1, 1, 5, false⟩, ⟨1, 1, 1, 2, false⟩]
theorem aw_good : goodB awB awK = true := by decide +kernel
theorem aw_best : bestM awB awK = 7 := by kernel_rfl
set_option maxRecDepth 100000 in
theorem awake_ok {m : AM} : ACall Tryd.prog 21 #[] m (Ret (.bool true) m) := by
  have hS : ∀ (T : AM), Strs (m ++ (some { cells := [.string b10, .string b11] } :: T)) (.slice (some ⟨m.length + 0, 0, none⟩) 2 2) awB := fun T =>
    ⟨m.length + 0, 0, Sl.mk (by decide), by simp, fun y hy => by
      rcases (show y = 0 ∨ y = 1 by simp [awB] at hy; omega) with rfl | rfl
      · exact Rd.new rfl rfl
      · exact Rd.new rfl rfl⟩
  have hK : ∀ (b0 : Option Blk) (T : AM), Kds (m ++ (b0 :: some { cells := [.int .i64 2, .int .i64 1, .int .i64 1, .int .i64 5, .bool false, .int .i64 1, .int .i64 1, .int .i64 1, .int .i64 2, .bool false] } :: T)) (.slice (some ⟨m.length + 1, 0, none⟩) 2 2) awK := fun b0 T =>
    ⟨m.length + 1, 0, Sl.mk (by decide), by simp, fun y hy => by
      rcases (show y = 0 ∨ y = 1 by simp [awK] at hy; omega) with rfl | rfl
      · refine ⟨_, by rw [get_app]; rfl, fun j v hj => ?_⟩
        rcases j with _ | _ | _ | _ | _ | j
        all_goals first | exact hj | (simp [Kd.cells, awK] at hj)
      · refine ⟨_, by rw [get_app]; rfl, fun j v hj => ?_⟩
        rcases j with _ | _ | _ | _ | _ | j
        all_goals first | exact hj | (simp [Kd.cells, awK] at hj)⟩
  have hb := fun T => Best_ok (m := m ++ (some { cells := [.string b10, .string b11] } :: some { cells := [.int .i64 2, .int .i64 1, .int .i64 1, .int .i64 5, .bool false, .int .i64 1, .int .i64 1, .int .i64 1, .int .i64 2, .bool false] } :: T)) (hS _) (hK _ T) aw_good
  rw [aw_best] at hb
  refine ACall.start Tryd.func21 rfl rfl ?_
  (repeat (first | (with_reducible refine AWo.cons ?_) | ((with_reducible refine Step.id ?_); first | ((with_reducible apply Step.gdT); exact rfl; exact rfl; (focus (rfl))) | ((with_reducible apply Step.move); exact rfl; exact rfl) | ((with_reducible apply Step.assign); exact rfl; exact rfl) | ((with_reducible apply Step.eql); exact rfl; exact rfl; exact rfl) | ((with_reducible apply Step.extract); exact rfl; exact rfl; exact rfl) | ((with_reducible apply Step.pickT); exact rfl; exact rfl; exact rfl; exact rfl; (focus (rfl))) | ((with_reducible apply Step.callR fit); exact rfl; exact Tryd.func22; exact rfl; exact rfl; exact (hb _)) | ((with_reducible apply Step.buildS 0); exact rfl; exact rfl; exact (fun _ _ => bs30); exact rfl; (focus (first | (simp only [List.nil_append, List.cons_append, List.set_cons_zero, List.set_cons_succ, iv_set, bv_set, iv_rep, bv_rep]; done) | (simp only [List.nil_append, List.cons_append, List.set_cons_zero, List.set_cons_succ, iv_set, bv_set, iv_rep, bv_rep]; rfl) | rfl))) | ((with_reducible apply Step.buildS 1); exact rfl; exact rfl; exact (fun _ _ => bs35); exact rfl; (focus (first | (simp only [List.nil_append, List.cons_append, List.set_cons_zero, List.set_cons_succ, iv_set, bv_set, iv_rep, bv_rep]; done) | (simp only [List.nil_append, List.cons_append, List.set_cons_zero, List.set_cons_succ, iv_set, bv_set, iv_rep, bv_rep]; rfl) | rfl))) | ((with_reducible apply Step.build); exact rfl; exact bl99; exact rfl)) | (with_reducible refine AWo.nil ?_) | ((with_reducible apply AW.seq)) | ((with_reducible apply Then.n)) | ((with_reducible apply AW.regL))))
  (refine AW.retD (l := [(0, _)]) (by repeat (first | exact trivial | (refine And.intro ⟨rfl, by (exact .bool _)⟩ ?_))) ?_; (repeat (first | refine Then.r ?_ | refine InBlk.r ?_)))
  exact ⟨_, rfl, rfl, rfl⟩
end Go.Proofs.YtibhgdglbillaaaDoor.Abs
namespace Go.Proofs.YtibhgdglbillaaaDoor.Abs
set_option linter.unusedSimpArgs false
set_option linter.unusedVariables false
open Go.RowKit
open Go.Proofs.YtibhgdglbillaaaDoor.Sim
open Go.Proofs
set_option maxRecDepth 100000 in
theorem RGrade_ok {m : AM} {sv : Value} {B : Brd} (hs : Strs m sv B) (hv : skinB B = true) {x y : Nat} (hy : y < bh B) (hx : x < bw B) :
    ACall Tryd.prog 93 #[sv, .int .i64 (x : Nat), .int .i64 (y : Nat)] m (Ret (.int .i64 (gr B x y)) m) := by
  obtain ⟨A, O, sl, la, rd⟩ := hs
  obtain ⟨z1, z2⟩ := skin_row hv hy
  have z3 := z2 x hx
  have rk := rd y hy
  unfold bh at hy
  have r0 := rd 0 (by omega)
  have z4 : (rowOf B 0).size = bw B := rfl
  refine ACall.start Tryd.func93 rfl rfl ?_
  (repeat (first | (with_reducible refine AWo.cons ?_) | ((with_reducible refine Step.id ?_); first | ((with_reducible apply Step.gdT); exact rfl; exact rfl; (focus (first | rfl | (simp only [decide_eq_true_eq, decide_eq_false_iff_not, Bool.not_eq_true', Bool.not_eq_false', Bool.not_true, Bool.not_false]; first | assumption | omega)))) | ((with_reducible apply Step.move); exact rfl; exact rfl) | ((with_reducible apply Step.assign); exact rfl; exact rfl) | ((with_reducible apply Step.load); exact rfl; (focus (decide +kernel)); exact rfl; (focus (exact Rd.old _ (by assumption)))) | ((with_reducible apply Step.ix1); exact rfl; (focus (assumption)); exact rfl; (focus (decide +kernel)); exact rfl; (focus (omega))) | ((with_reducible apply Step.ix1 (k := 0)); exact rfl; (focus (assumption)); exact rfl; (focus (decide +kernel)); exact rfl; (focus (omega))) | ((with_reducible apply Step.strIx); exact rfl; exact rfl; exact un9; (focus (omega)); exact rfl) | ((with_reducible apply Step.lenS); exact rfl; exact un9; exact rfl) | ((with_reducible apply Step.subU); exact rfl; exact rfl; (focus (omega)); exact rfl) | ((with_reducible apply Step.u8I); exact rfl; exact un5; exact un3; (focus (omega)); exact rfl) | ((with_reducible apply Step.lss); exact rfl; exact rfl; exact rfl) | ((with_reducible apply Step.geq); exact rfl; exact rfl; exact rfl) | ((with_reducible apply Step.len); exact rfl; (focus (assumption)); (focus (decide +kernel)); exact rfl) | ((with_reducible apply Step.pickF); exact rfl; exact rfl; exact rfl; exact rfl; (focus (first | rfl | (simp only [decide_eq_true_eq, decide_eq_false_iff_not, Bool.not_eq_true', Bool.not_eq_false', Bool.not_true, Bool.not_false]; first | assumption | omega))))) | (with_reducible refine AWo.nil ?_) | ((with_reducible apply AW.seq)) | ((with_reducible apply Then.n)) | ((with_reducible apply AW.regL)) | ((with_reducible apply AW.skip)) | ((with_reducible apply AW.condF); exact rfl; (focus ((simp only [decide_eq_true_eq, decide_eq_false_iff_not, Bool.not_eq_true', Bool.not_eq_false', Bool.not_true, Bool.not_false]; first | assumption | omega))))))
  (refine AW.retD (l := [(6, _)]) (by repeat (first | exact trivial | (refine And.intro ⟨rfl, by (exact .int _ _)⟩ ?_))) ?_; (repeat (first | refine Then.r ?_ | refine InBlk.r ?_)))
  exact ⟨_, rfl, rfl, rfl⟩
set_option maxHeartbeats 4000000 in
set_option maxRecDepth 100000 in
theorem RCount_ok {m : AM} {sv : Value} {B : Brd} {g : Int} (hs : Strs m sv B) (hv : boardB B = true) {r : R4} (hr : r.ok (bw B) (bh B)) :
    ACall Tryd.prog 56 #[sv, .int .i64 g, r.rc.v] m (Ret (.int .i64 (cnt B g r.x r.y r.a r.b : Nat)) m) := by
  have hin := good_in hv
  have hsk : skinB B = true := by simp only [boardB, Bool.and_eq_true] at hv; exact hv.1
  have hG := fun T x y hy hx => RGrade_ok (hs.old T) hsk (x := x) (y := y) hy hx
  obtain ⟨A, O, sl, la, rd⟩ := hs
  obtain ⟨q, c, rfl⟩ := sl.shape
  have wl : Low m.length (.slice q B.length c) := Low.of_sl sl la
  obtain ⟨x, y, a, b⟩ := r
  simp only [R4.ok] at hr
  have e1 : (y : Int) + (b : Int) = ((y + b : Nat) : Int) := by omega
  have e2 : (x : Int) + (a : Int) = ((x + a : Nat) : Int) := by omega
  change ACall Tryd.prog 56 #[_, _, .agg #[.int .i64 (x : Nat), .int .i64 (y : Nat), .int .i64 (a : Nat), .int .i64 (b : Nat)]] m (Ret (.int .i64 (cnt B g x y a b : Nat)) m)
  refine ACall.start Tryd.func56 rfl rfl ?_
  (repeat (first | (with_reducible refine AWo.cons ?_) | ((with_reducible refine Step.id ?_); first | ((with_reducible apply Step.assign); exact rfl; exact rfl) | ((with_reducible apply Step.load); exact rfl; (focus (decide +kernel)); exact rfl; (focus (exact Rd.new rfl rfl))) | ((with_reducible apply Step.field (k := 1)); exact rfl; (focus (decide +kernel)); exact rfl) | ((with_reducible apply Step.box 0); exact rfl; exact rfl; (focus (kernel_rfl)); exact rfl; (focus (first | (simp only [List.nil_append, List.cons_append, List.set_cons_zero, List.set_cons_succ, iv_set, bv_set, iv_rep, bv_rep]; done) | (simp only [List.nil_append, List.cons_append, List.set_cons_zero, List.set_cons_succ, iv_set, bv_set, iv_rep, bv_rep]; rfl) | rfl)))) | (with_reducible refine AWo.nil ?_) | ((with_reducible apply AW.seq)) | ((with_reducible apply Then.n)) | ((with_reducible apply AW.regL)) | ((with_reducible apply AW.block))))
  refine AW.loopT (fun n t L => ∃ k : Nat, n = b - k ∧ k ≤ b ∧ L = [some { cells := [.int .i64 (x : Nat), .int .i64 (y : Nat), .int .i64 (a : Nat), .int .i64 (b : Nat)] }] ∧
    t = [(0, .slice q B.length c), (1, .int .i64 g), (5, .pointer (some ⟨m.length + 0, 0, none⟩)), (7, .int .i64 (cnt B g x y a k : Nat)), (8, .int .i64 (y + k : Nat))])
    ⟨_, _, _, (Or.inl ⟨rfl, (by repeat (first | exact trivial | (refine And.intro rfl ?_)))⟩), 0, rfl, Nat.zero_le _, rfl, rfl⟩ ?_
  rintro n t L ⟨k, rfl, hk, rfl, rfl⟩
  rcases Nat.lt_or_ge k b with hkb | hkb
  · (repeat (first | (with_reducible refine AWo.cons ?_) | ((with_reducible refine Step.id ?_); first | ((with_reducible apply Step.move); exact rfl; exact rfl) | ((with_reducible apply Step.assign); exact rfl; exact rfl) | ((with_reducible apply Step.load); exact rfl; (focus (decide +kernel)); exact rfl; (focus (exact Rd.new rfl rfl))) | ((with_reducible apply Step.field0); exact rfl; (focus (decide +kernel)); exact rfl) | ((with_reducible apply Step.field (k := 1)); exact rfl; (focus (decide +kernel)); exact rfl) | ((with_reducible apply Step.field (k := 3)); exact rfl; (focus (decide +kernel)); exact rfl) | ((with_reducible apply Step.addE); exact rfl; exact rfl; (focus (assumption)); (focus (omega)); exact rfl) | ((with_reducible apply Step.lss); exact rfl; exact rfl; exact rfl)) | (with_reducible refine AWo.nil ?_) | ((with_reducible apply AW.seq)) | ((with_reducible apply Then.n)) | ((with_reducible apply AW.regL)) | ((with_reducible apply AW.block)) | ((with_reducible apply AW.skip)) | ((with_reducible apply AW.condT); exact rfl; (focus ((simp only [decide_eq_true_eq, decide_eq_false_iff_not, Bool.not_eq_true', Bool.not_eq_false', Bool.not_true, Bool.not_false]; first | assumption | omega))))))
    refine AW.loopT (fun n t L => ∃ i : Nat, n = a - i ∧ i ≤ a ∧ L = [some { cells := [.int .i64 (x : Nat), .int .i64 (y : Nat), .int .i64 (a : Nat), .int .i64 (b : Nat)] }] ∧
      t = [(0, .slice q B.length c), (1, .int .i64 g), (5, .pointer (some ⟨m.length + 0, 0, none⟩)), (7, .int .i64 (cnt B g x y a k + rowc B g (y + k) x i : Nat)), (8, .int .i64 (y + k : Nat)), (9, .int .i64 (x + i : Nat))])
      ⟨_, _, _, (Or.inl ⟨rfl, (by repeat (first | exact trivial | (refine And.intro rfl ?_)))⟩), 0, rfl, Nat.zero_le _, rfl, rfl⟩ ?_
    rintro n t L ⟨i, rfl, hi, rfl, rfl⟩
    rcases Nat.lt_or_ge i a with hia | hia
    · have hGi := fun T => hG T (x + i) (y + k) (by omega) (by omega)
      have c1 := cnt_le B g x y a k
      have c2 : a * k ≤ 16 * 16 := Nat.mul_le_mul (by omega) (by omega)
      have c3 := rowc_le B g (y + k) x i
      by_cases hgr : g ≤ gr B (x + i) (y + k)
      · have er : rowc B g (y + k) x (i + 1) = rowc B g (y + k) x i + 1 := by simp [rowc, hgr]
        (repeat (first | (with_reducible refine AWo.cons ?_) | ((with_reducible refine Step.id ?_); first | ((with_reducible apply Step.move); exact rfl; exact rfl) | ((with_reducible apply Step.assign); exact rfl; exact rfl) | ((with_reducible apply Step.load); exact rfl; (focus (decide +kernel)); exact rfl; (focus (exact Rd.new rfl rfl))) | ((with_reducible apply Step.field0); exact rfl; (focus (decide +kernel)); exact rfl) | ((with_reducible apply Step.field (k := 2)); exact rfl; (focus (decide +kernel)); exact rfl) | ((with_reducible apply Step.addE); exact rfl; exact rfl; (focus (assumption)); (focus (omega)); exact rfl) | ((with_reducible apply Step.add); exact rfl; exact rfl; (focus (omega)); exact rfl) | ((with_reducible apply Step.lss); exact rfl; exact rfl; exact rfl) | ((with_reducible apply Step.geq); exact rfl; exact rfl; exact rfl) | ((with_reducible apply Step.callR fit); exact rfl; exact Tryd.func93; exact rfl; exact rfl; exact (hGi _))) | (with_reducible refine AWo.nil ?_) | ((with_reducible apply AW.seq)) | ((with_reducible apply Then.n)) | ((with_reducible apply AW.regL)) | ((with_reducible apply AW.block)) | ((with_reducible apply InBlk.n)) | ((with_reducible apply AW.skip)) | ((with_reducible apply AW.condT); exact rfl; (focus ((simp only [decide_eq_true_eq, decide_eq_false_iff_not, Bool.not_eq_true', Bool.not_eq_false', Bool.not_true, Bool.not_false]; first | assumption | omega))))))
        exact ⟨_, [(0, .slice q B.length c), (1, .int .i64 g), (5, .pointer (some ⟨m.length + 0, 0, none⟩)), (7, .int .i64 (cnt B g x y a k + rowc B g (y + k) x i + 1 : Nat)), (8, .int .i64 (y + k : Nat)), (9, .int .i64 (x + i + 1 : Nat))], _, by omega, (Or.inl ⟨rfl, (by repeat (first | exact trivial | (refine And.intro rfl ?_)))⟩), i + 1, rfl, by omega, rfl, by rw [er]; rfl⟩
      · have er : rowc B g (y + k) x (i + 1) = rowc B g (y + k) x i := by simp [rowc, hgr]
        (repeat (first | (with_reducible refine AWo.cons ?_) | ((with_reducible refine Step.id ?_); first | ((with_reducible apply Step.move); exact rfl; exact rfl) | ((with_reducible apply Step.assign); exact rfl; exact rfl) | ((with_reducible apply Step.load); exact rfl; (focus (decide +kernel)); exact rfl; (focus (exact Rd.new rfl rfl))) | ((with_reducible apply Step.field0); exact rfl; (focus (decide +kernel)); exact rfl) | ((with_reducible apply Step.field (k := 2)); exact rfl; (focus (decide +kernel)); exact rfl) | ((with_reducible apply Step.addE); exact rfl; exact rfl; (focus (assumption)); (focus (omega)); exact rfl) | ((with_reducible apply Step.add); exact rfl; exact rfl; (focus (omega)); exact rfl) | ((with_reducible apply Step.lss); exact rfl; exact rfl; exact rfl) | ((with_reducible apply Step.geq); exact rfl; exact rfl; exact rfl) | ((with_reducible apply Step.callR fit); exact rfl; exact Tryd.func93; exact rfl; exact rfl; exact (hGi _))) | (with_reducible refine AWo.nil ?_) | ((with_reducible apply AW.seq)) | ((with_reducible apply Then.n)) | ((with_reducible apply AW.regL)) | ((with_reducible apply AW.block)) | ((with_reducible apply InBlk.n)) | ((with_reducible apply AW.skip)) | ((with_reducible apply AW.condT); exact rfl; (focus ((simp only [decide_eq_true_eq, decide_eq_false_iff_not, Bool.not_eq_true', Bool.not_eq_false', Bool.not_true, Bool.not_false]; first | assumption | omega)))) | ((with_reducible apply AW.condF); exact rfl; (focus ((simp only [decide_eq_true_eq, decide_eq_false_iff_not, Bool.not_eq_true', Bool.not_eq_false', Bool.not_true, Bool.not_false]; first | assumption | omega))))))
        exact ⟨_, [(0, .slice q B.length c), (1, .int .i64 g), (5, .pointer (some ⟨m.length + 0, 0, none⟩)), (7, .int .i64 (cnt B g x y a k + rowc B g (y + k) x i : Nat)), (8, .int .i64 (y + k : Nat)), (9, .int .i64 (x + i + 1 : Nat))], _, by omega, (Or.inl ⟨rfl, (by repeat (first | exact trivial | (refine And.intro rfl ?_)))⟩), i + 1, rfl, by omega, rfl, by rw [er]; rfl⟩
    · obtain rfl : i = a := by omega
      (repeat (first | (with_reducible refine AWo.cons ?_) | ((with_reducible refine Step.id ?_); first | ((with_reducible apply Step.move); exact rfl; exact rfl) | ((with_reducible apply Step.assign); exact rfl; exact rfl) | ((with_reducible apply Step.load); exact rfl; (focus (decide +kernel)); exact rfl; (focus (exact Rd.new rfl rfl))) | ((with_reducible apply Step.field0); exact rfl; (focus (decide +kernel)); exact rfl) | ((with_reducible apply Step.field (k := 2)); exact rfl; (focus (decide +kernel)); exact rfl) | ((with_reducible apply Step.addE); exact rfl; exact rfl; (focus (assumption)); (focus (omega)); exact rfl) | ((with_reducible apply Step.add); exact rfl; exact rfl; (focus (omega)); exact rfl) | ((with_reducible apply Step.lss); exact rfl; exact rfl; exact rfl)) | (with_reducible refine AWo.nil ?_) | ((with_reducible apply AW.seq)) | ((with_reducible apply Then.n)) | ((with_reducible apply AW.regL)) | ((with_reducible apply AW.exit)) | ((with_reducible apply InBlk.n)) | ((with_reducible apply InBlk.hit)) | ((with_reducible apply Then.e)) | ((with_reducible apply AW.condF); exact rfl; (focus ((simp only [decide_eq_true_eq, decide_eq_false_iff_not, Bool.not_eq_true', Bool.not_eq_false', Bool.not_true, Bool.not_false]; first | assumption | omega))))))
      exact ⟨_, [(0, .slice q B.length c), (1, .int .i64 g), (5, .pointer (some ⟨m.length + 0, 0, none⟩)), (7, .int .i64 (cnt B g x y i k + rowc B g (y + k) x i : Nat)), (8, .int .i64 (y + k + 1 : Nat))], _, by omega, (Or.inl ⟨rfl, (by repeat (first | exact trivial | (refine And.intro rfl ?_)))⟩), k + 1, rfl, by omega, rfl, rfl⟩
  · obtain rfl : k = b := by omega
    (repeat (first | (with_reducible refine AWo.cons ?_) | ((with_reducible refine Step.id ?_); first | ((with_reducible apply Step.move); exact rfl; exact rfl) | ((with_reducible apply Step.assign); exact rfl; exact rfl) | ((with_reducible apply Step.load); exact rfl; (focus (decide +kernel)); exact rfl; (focus (exact Rd.new rfl rfl))) | ((with_reducible apply Step.field (k := 1)); exact rfl; (focus (decide +kernel)); exact rfl) | ((with_reducible apply Step.field (k := 3)); exact rfl; (focus (decide +kernel)); exact rfl) | ((with_reducible apply Step.addE); exact rfl; exact rfl; (focus (assumption)); (focus (omega)); exact rfl) | ((with_reducible apply Step.lss); exact rfl; exact rfl; exact rfl)) | (with_reducible refine AWo.nil ?_) | ((with_reducible apply AW.seq)) | ((with_reducible apply Then.n)) | ((with_reducible apply AW.regL)) | ((with_reducible apply AW.exit)) | ((with_reducible apply InBlk.hit)) | ((with_reducible apply Then.e)) | ((with_reducible apply AW.condF); exact rfl; (focus ((simp only [decide_eq_true_eq, decide_eq_false_iff_not, Bool.not_eq_true', Bool.not_eq_false', Bool.not_true, Bool.not_false]; first | assumption | omega))))))
    (refine AW.retD (l := [(6, _)]) (by repeat (first | exact trivial | (refine And.intro ⟨rfl, by (exact .int _ _)⟩ ?_))) ?_; (repeat (first | refine Then.r ?_ | refine InBlk.r ?_)))
    exact ⟨_, rfl, rfl, rfl⟩
end Go.Proofs.YtibhgdglbillaaaDoor.Abs
namespace Go.Proofs.YtibhgdglbillaaaDoor.Abs
set_option linter.unusedSimpArgs false
set_option linter.unusedVariables false
open Go.RowKit
open Go.Proofs.YtibhgdglbillaaaDoor.Sim
open Go.Proofs
set_option maxHeartbeats 4000000 in
set_option maxRecDepth 100000 in
theorem RFits_ok {m : AM} {sv : Value} {B : Brd} (hs : Strs m sv B) (hv : boardB B = true) (k : Kd) {r : R4} (hr : r.ok (bw B) (bh B)) :
    ACall Tryd.prog 55 #[sv, k.v, r.rc.v] m (Ret (.tuple #[.bool (okB B k r), .bool (okB B k r && turnedB k r)]) m) := by
  have hin := good_in hv
  have hab := area_le hin.2.2.2 hin.2.1 hr
  have hC := fun T => RCount_ok (g := k.g) (hs.old T) hv hr
  obtain ⟨A, O, sl, la, rd⟩ := hs
  obtain ⟨q, c, rfl⟩ := sl.shape
  obtain ⟨kw, kh, kg, ko, kt⟩ := k
  obtain ⟨x, y, a, bb⟩ := r
  simp only at hab hC
  have e1 : (a : Int) * (bb : Int) = ((a * bb : Nat) : Int) := by simp
  change ACall Tryd.prog 55 #[_, .agg #[.int .i64 kw, .int .i64 kh, .int .i64 kg, .int .i64 ko, .bool kt], .agg #[.int .i64 (x : Nat), .int .i64 (y : Nat), .int .i64 (a : Nat), .int .i64 (bb : Nat)]] m _
  change ∀ T, ACall Tryd.prog 56 #[_, _, .agg #[.int .i64 (x : Nat), .int .i64 (y : Nat), .int .i64 (a : Nat), .int .i64 (bb : Nat)]] (m ++ T) _ at hC
  have no : okB B ⟨kw, kh, kg, ko, kt⟩ ⟨x, y, a, bb⟩ = false → Ret (.tuple #[.bool (okB B ⟨kw, kh, kg, ko, kt⟩ ⟨x, y, a, bb⟩), .bool (okB B ⟨kw, kh, kg, ko, kt⟩ ⟨x, y, a, bb⟩ && turnedB ⟨kw, kh, kg, ko, kt⟩ ⟨x, y, a, bb⟩)]) m (.tuple #[.bool false, .bool false]) m := fun h => by
    rw [h]; exact ⟨rfl, rfl⟩
  have yes : ∀ tn, okB B ⟨kw, kh, kg, ko, kt⟩ ⟨x, y, a, bb⟩ = true → turnedB ⟨kw, kh, kg, ko, kt⟩ ⟨x, y, a, bb⟩ = tn → Ret (.tuple #[.bool (okB B ⟨kw, kh, kg, ko, kt⟩ ⟨x, y, a, bb⟩), .bool (okB B ⟨kw, kh, kg, ko, kt⟩ ⟨x, y, a, bb⟩ && turnedB ⟨kw, kh, kg, ko, kt⟩ ⟨x, y, a, bb⟩)]) m (.tuple #[.bool true, .bool tn]) m := fun tn h h2 => by
    rw [h, h2]; exact ⟨rfl, rfl⟩
  have hok : okB B ⟨kw, kh, kg, ko, kt⟩ ⟨x, y, a, bb⟩ = ((upB ⟨kw, kh, kg, ko, kt⟩ ⟨x, y, a, bb⟩ || tnB ⟨kw, kh, kg, ko, kt⟩ ⟨x, y, a, bb⟩) && decide (cnt B kg x y a bb = a * bb)) := rfl
  refine ACall.start Tryd.func55 rfl rfl ?_
  by_cases u : kw = (a : Int) ∧ kh = (bb : Int)
  · have hup : upB ⟨kw, kh, kg, ko, kt⟩ ⟨x, y, a, bb⟩ = true := decide_eq_true u
    obtain ⟨u1, u2⟩ := u
    by_cases hcc : cnt B kg x y a bb = a * bb
    · have hy : okB B ⟨kw, kh, kg, ko, kt⟩ ⟨x, y, a, bb⟩ = true := by rw [hok, hup, decide_eq_true hcc]; rfl
      (repeat' (first | (with_reducible refine AWo.cons ?_) | ((with_reducible refine Step.id ?_); first | ((with_reducible apply Step.gdU); exact rfl; exact rfl) | ((with_reducible apply Step.gdT); exact rfl; exact rfl; (focus ((simp only [decide_eq_true_eq, decide_eq_false_iff_not, Bool.not_eq_true', Bool.not_eq_false', Bool.not_true, Bool.not_false]; first | assumption | omega)))) | ((with_reducible apply Step.gdF); exact rfl; exact rfl; (focus ((simp only [decide_eq_true_eq, decide_eq_false_iff_not, Bool.not_eq_true', Bool.not_eq_false', Bool.not_true, Bool.not_false]; first | assumption | omega)))) | ((with_reducible apply Step.move); exact rfl; exact rfl) | ((with_reducible apply Step.assign); exact rfl; exact rfl) | ((with_reducible apply Step.load); exact rfl; (focus (decide +kernel)); exact rfl; (focus (exact Rd.new rfl rfl))) | ((with_reducible apply Step.loadL (n := 4)); exact rfl; (focus (decide +kernel)); (focus (decide +kernel)); exact rfl; (focus (exact RdL.new rfl rfl)); exact rfl; exact rfl) | ((with_reducible apply Step.field0); exact rfl; (focus (decide +kernel)); exact rfl) | ((with_reducible apply Step.field (k := 1)); exact rfl; (focus (decide +kernel)); exact rfl) | ((with_reducible apply Step.field (k := 2)); exact rfl; (focus (decide +kernel)); exact rfl) | ((with_reducible apply Step.field (k := 3)); exact rfl; (focus (decide +kernel)); exact rfl) | ((with_reducible apply Step.mulE); exact rfl; exact rfl; (focus (assumption)); (focus (omega)); exact rfl) | ((with_reducible apply Step.eql); exact rfl; exact rfl; exact rfl) | ((with_reducible apply Step.neq); exact rfl; exact rfl; exact rfl) | ((with_reducible apply Step.not); exact rfl; exact rfl) | ((with_reducible apply Step.pickT); exact rfl; exact rfl; exact rfl; exact rfl; (focus ((simp only [decide_eq_true_eq, decide_eq_false_iff_not, Bool.not_eq_true', Bool.not_eq_false', Bool.not_true, Bool.not_false]; first | assumption | omega)))) | ((with_reducible apply Step.pickF); exact rfl; exact rfl; exact rfl; exact rfl; (focus ((simp only [decide_eq_true_eq, decide_eq_false_iff_not, Bool.not_eq_true', Bool.not_eq_false', Bool.not_true, Bool.not_false]; first | assumption | omega)))) | ((with_reducible apply Step.callR fit); exact rfl; exact Tryd.func56; exact rfl; exact rfl; exact (hC _)) | ((with_reducible apply Step.box 0); exact rfl; exact rfl; (focus (kernel_rfl)); exact rfl; (focus (first | (simp only [List.nil_append, List.cons_append, List.set_cons_zero, List.set_cons_succ, iv_set, bv_set, iv_rep, bv_rep]; done) | (simp only [List.nil_append, List.cons_append, List.set_cons_zero, List.set_cons_succ, iv_set, bv_set, iv_rep, bv_rep]; rfl) | rfl))) | ((with_reducible apply Step.box 1); exact rfl; exact rfl; (focus (kernel_rfl)); exact rfl; (focus (first | (simp only [List.nil_append, List.cons_append, List.set_cons_zero, List.set_cons_succ, iv_set, bv_set, iv_rep, bv_rep]; done) | (simp only [List.nil_append, List.cons_append, List.set_cons_zero, List.set_cons_succ, iv_set, bv_set, iv_rep, bv_rep]; rfl) | rfl)))) | (with_reducible refine AWo.nil ?_) | ((with_reducible apply AW.seq)) | ((with_reducible apply Then.n)) | ((with_reducible apply AW.regL)) | ((with_reducible apply AW.drawT fit (T := (.step 0 (.step 1 (.step 2 (.step 3 (.step 5 (.step 7 (.both (.step 4 (.step 6 (.step 8 (.step 9 (.step 10 .done))))) (.both (.step 6 (.both (.step 4 (.step 8 (.step 9 (.step 10 .done)))) (.step 8 (.step 9 (.step 4 (.step 10 .done)))))) (.step 8 (.both (.step 4 (.step 6 (.step 9 (.step 10 .done)))) (.step 6 (.step 9 (.step 4 (.step 10 .done)))))))))))))))); (focus (decide +kernel))) | ((with_reducible apply AWt.step); exact rfl) | ((with_reducible apply AWt.done)) | ((with_reducible apply AW.skip)) | ((with_reducible apply AW.condF); exact rfl; (focus (first | rfl | (simp only [decide_eq_true_eq, decide_eq_false_iff_not, Bool.not_eq_true', Bool.not_eq_false', Bool.not_true, Bool.not_false]; first | assumption | omega)))) | refine AWt.both ?_ ?_))
      all_goals
        (refine AW.retD (l := [(6, _), (7, _)]) (by repeat (first | exact trivial | (refine And.intro ⟨rfl, by (exact .bool _)⟩ ?_))) ?_; (repeat (first | refine Then.r ?_ | refine InBlk.r ?_)))
        exact ⟨_, rfl, yes _ hy (by unfold turnedB; rw [hup]; simp [u1, u2])⟩
    · have hn : okB B ⟨kw, kh, kg, ko, kt⟩ ⟨x, y, a, bb⟩ = false := by rw [hok, decide_eq_false hcc, Bool.and_false]
      (repeat' (first | (with_reducible refine AWo.cons ?_) | ((with_reducible refine Step.id ?_); first | ((with_reducible apply Step.gdU); exact rfl; exact rfl) | ((with_reducible apply Step.gdT); exact rfl; exact rfl; (focus ((simp only [decide_eq_true_eq, decide_eq_false_iff_not, Bool.not_eq_true', Bool.not_eq_false', Bool.not_true, Bool.not_false]; first | assumption | omega)))) | ((with_reducible apply Step.gdF); exact rfl; exact rfl; (focus ((simp only [decide_eq_true_eq, decide_eq_false_iff_not, Bool.not_eq_true', Bool.not_eq_false', Bool.not_true, Bool.not_false]; first | assumption | omega)))) | ((with_reducible apply Step.move); exact rfl; exact rfl) | ((with_reducible apply Step.assign); exact rfl; exact rfl) | ((with_reducible apply Step.load); exact rfl; (focus (decide +kernel)); exact rfl; (focus (exact Rd.new rfl rfl))) | ((with_reducible apply Step.loadL (n := 4)); exact rfl; (focus (decide +kernel)); (focus (decide +kernel)); exact rfl; (focus (exact RdL.new rfl rfl)); exact rfl; exact rfl) | ((with_reducible apply Step.field0); exact rfl; (focus (decide +kernel)); exact rfl) | ((with_reducible apply Step.field (k := 1)); exact rfl; (focus (decide +kernel)); exact rfl) | ((with_reducible apply Step.field (k := 2)); exact rfl; (focus (decide +kernel)); exact rfl) | ((with_reducible apply Step.field (k := 3)); exact rfl; (focus (decide +kernel)); exact rfl) | ((with_reducible apply Step.mulE); exact rfl; exact rfl; (focus (assumption)); (focus (omega)); exact rfl) | ((with_reducible apply Step.eql); exact rfl; exact rfl; exact rfl) | ((with_reducible apply Step.neq); exact rfl; exact rfl; exact rfl) | ((with_reducible apply Step.not); exact rfl; exact rfl) | ((with_reducible apply Step.pickT); exact rfl; exact rfl; exact rfl; exact rfl; (focus ((simp only [decide_eq_true_eq, decide_eq_false_iff_not, Bool.not_eq_true', Bool.not_eq_false', Bool.not_true, Bool.not_false]; first | assumption | omega)))) | ((with_reducible apply Step.pickF); exact rfl; exact rfl; exact rfl; exact rfl; (focus ((simp only [decide_eq_true_eq, decide_eq_false_iff_not, Bool.not_eq_true', Bool.not_eq_false', Bool.not_true, Bool.not_false]; first | assumption | omega)))) | ((with_reducible apply Step.callR fit); exact rfl; exact Tryd.func56; exact rfl; exact rfl; exact (hC _)) | ((with_reducible apply Step.box 0); exact rfl; exact rfl; (focus (kernel_rfl)); exact rfl; (focus (first | (simp only [List.nil_append, List.cons_append, List.set_cons_zero, List.set_cons_succ, iv_set, bv_set, iv_rep, bv_rep]; done) | (simp only [List.nil_append, List.cons_append, List.set_cons_zero, List.set_cons_succ, iv_set, bv_set, iv_rep, bv_rep]; rfl) | rfl))) | ((with_reducible apply Step.box 1); exact rfl; exact rfl; (focus (kernel_rfl)); exact rfl; (focus (first | (simp only [List.nil_append, List.cons_append, List.set_cons_zero, List.set_cons_succ, iv_set, bv_set, iv_rep, bv_rep]; done) | (simp only [List.nil_append, List.cons_append, List.set_cons_zero, List.set_cons_succ, iv_set, bv_set, iv_rep, bv_rep]; rfl) | rfl)))) | (with_reducible refine AWo.nil ?_) | ((with_reducible apply AW.seq)) | ((with_reducible apply Then.n)) | ((with_reducible apply AW.regL)) | ((with_reducible apply AW.drawT fit (T := (.step 0 (.step 1 (.step 2 (.step 3 (.step 5 (.step 7 (.both (.step 4 (.step 6 (.step 8 (.step 9 (.step 10 .done))))) (.both (.step 6 (.both (.step 4 (.step 8 (.step 9 (.step 10 .done)))) (.step 8 (.step 9 (.step 4 (.step 10 .done)))))) (.step 8 (.both (.step 4 (.step 6 (.step 9 (.step 10 .done)))) (.step 6 (.step 9 (.step 4 (.step 10 .done)))))))))))))))); (focus (decide +kernel))) | ((with_reducible apply AWt.step); exact rfl) | ((with_reducible apply AWt.done)) | ((with_reducible apply AW.skip)) | ((with_reducible apply AW.condT); exact rfl; (focus ((simp only [decide_eq_true_eq, decide_eq_false_iff_not, Bool.not_eq_true', Bool.not_eq_false', Bool.not_true, Bool.not_false]; first | assumption | omega)))) | ((with_reducible apply AW.condF); exact rfl; (focus (rfl))) | refine AWt.both ?_ ?_))
      all_goals
        (refine AW.retD (l := [(6, _), (7, _)]) (by repeat (first | exact trivial | (refine And.intro ⟨rfl, by (exact .bool _)⟩ ?_))) ?_; (repeat (first | refine Then.r ?_ | refine InBlk.r ?_)))
        exact ⟨_, rfl, no hn⟩
  have hup : upB ⟨kw, kh, kg, ko, kt⟩ ⟨x, y, a, bb⟩ = false := decide_eq_false u
  by_cases v : kt = true ∧ kw = (bb : Int) ∧ kh = (a : Int)
  · obtain ⟨v0, v1, v2⟩ := v
    subst v0
    have htn : tnB ⟨kw, kh, kg, ko, true⟩ ⟨x, y, a, bb⟩ = true := decide_eq_true (p := kw = (bb : Int) ∧ kh = (a : Int)) ⟨v1, v2⟩
    by_cases u1 : kw = (a : Int)
    · exact absurd ⟨u1, by omega⟩ u
    by_cases hcc : cnt B kg x y a bb = a * bb
    · have hy : okB B ⟨kw, kh, kg, ko, true⟩ ⟨x, y, a, bb⟩ = true := by rw [hok, htn, Bool.or_true, decide_eq_true hcc]; rfl
      (repeat' (first | (with_reducible refine AWo.cons ?_) | ((with_reducible refine Step.id ?_); first | ((with_reducible apply Step.gdT); exact rfl; exact rfl; (focus (first | rfl | (simp only [decide_eq_true_eq, decide_eq_false_iff_not, Bool.not_eq_true', Bool.not_eq_false', Bool.not_true, Bool.not_false]; first | assumption | omega)))) | ((with_reducible apply Step.gdF); exact rfl; exact rfl; (focus ((simp only [decide_eq_true_eq, decide_eq_false_iff_not, Bool.not_eq_true', Bool.not_eq_false', Bool.not_true, Bool.not_false]; first | assumption | omega)))) | ((with_reducible apply Step.move); exact rfl; exact rfl) | ((with_reducible apply Step.assign); exact rfl; exact rfl) | ((with_reducible apply Step.load); exact rfl; (focus (decide +kernel)); exact rfl; (focus (exact Rd.new rfl rfl))) | ((with_reducible apply Step.loadL (n := 4)); exact rfl; (focus (decide +kernel)); (focus (decide +kernel)); exact rfl; (focus (exact RdL.new rfl rfl)); exact rfl; exact rfl) | ((with_reducible apply Step.field0); exact rfl; (focus (decide +kernel)); exact rfl) | ((with_reducible apply Step.field (k := 1)); exact rfl; (focus (decide +kernel)); exact rfl) | ((with_reducible apply Step.field (k := 2)); exact rfl; (focus (decide +kernel)); exact rfl) | ((with_reducible apply Step.field (k := 3)); exact rfl; (focus (decide +kernel)); exact rfl) | ((with_reducible apply Step.field (k := 4)); exact rfl; (focus (decide +kernel)); exact rfl) | ((with_reducible apply Step.mulE); exact rfl; exact rfl; (focus (assumption)); (focus (omega)); exact rfl) | ((with_reducible apply Step.eql); exact rfl; exact rfl; exact rfl) | ((with_reducible apply Step.neq); exact rfl; exact rfl; exact rfl) | ((with_reducible apply Step.not); exact rfl; exact rfl) | ((with_reducible apply Step.pickT); exact rfl; exact rfl; exact rfl; exact rfl; (focus (rfl))) | ((with_reducible apply Step.pickF); exact rfl; exact rfl; exact rfl; exact rfl; (focus (first | rfl | (simp only [decide_eq_true_eq, decide_eq_false_iff_not, Bool.not_eq_true', Bool.not_eq_false', Bool.not_true, Bool.not_false]; first | assumption | omega)))) | ((with_reducible apply Step.callR fit); exact rfl; exact Tryd.func56; exact rfl; exact rfl; exact (hC _)) | ((with_reducible apply Step.box 0); exact rfl; exact rfl; (focus (kernel_rfl)); exact rfl; (focus (first | (simp only [List.nil_append, List.cons_append, List.set_cons_zero, List.set_cons_succ, iv_set, bv_set, iv_rep, bv_rep]; done) | (simp only [List.nil_append, List.cons_append, List.set_cons_zero, List.set_cons_succ, iv_set, bv_set, iv_rep, bv_rep]; rfl) | rfl))) | ((with_reducible apply Step.box 1); exact rfl; exact rfl; (focus (kernel_rfl)); exact rfl; (focus (first | (simp only [List.nil_append, List.cons_append, List.set_cons_zero, List.set_cons_succ, iv_set, bv_set, iv_rep, bv_rep]; done) | (simp only [List.nil_append, List.cons_append, List.set_cons_zero, List.set_cons_succ, iv_set, bv_set, iv_rep, bv_rep]; rfl) | rfl)))) | (with_reducible refine AWo.nil ?_) | ((with_reducible apply AW.seq)) | ((with_reducible apply Then.n)) | ((with_reducible apply AW.regL)) | ((with_reducible apply AW.drawT fit (T := (.step 0 (.step 1 (.step 2 (.step 3 (.step 5 (.step 7 (.both (.step 4 (.step 6 (.step 8 (.step 9 (.step 10 .done))))) (.both (.step 6 (.both (.step 4 (.step 8 (.step 9 (.step 10 .done)))) (.step 8 (.step 9 (.step 4 (.step 10 .done)))))) (.step 8 (.both (.step 4 (.step 6 (.step 9 (.step 10 .done)))) (.step 6 (.step 9 (.step 4 (.step 10 .done)))))))))))))))); (focus (decide +kernel))) | ((with_reducible apply AWt.step); exact rfl) | ((with_reducible apply AWt.done)) | ((with_reducible apply AW.skip)) | ((with_reducible apply AW.condF); exact rfl; (focus ((simp only [decide_eq_true_eq, decide_eq_false_iff_not, Bool.not_eq_true', Bool.not_eq_false', Bool.not_true, Bool.not_false]; first | assumption | omega)))) | refine AWt.both ?_ ?_))
      all_goals
        (refine AW.retD (l := [(6, _), (7, _)]) (by repeat (first | exact trivial | (refine And.intro ⟨rfl, by (exact .bool _)⟩ ?_))) ?_; (repeat (first | refine Then.r ?_ | refine InBlk.r ?_)))
        exact ⟨_, rfl, yes _ hy (by unfold turnedB; rw [hup, htn]; simp [u1])⟩
    · have hn : okB B ⟨kw, kh, kg, ko, true⟩ ⟨x, y, a, bb⟩ = false := by rw [hok, decide_eq_false hcc, Bool.and_false]
      (repeat' (first | (with_reducible refine AWo.cons ?_) | ((with_reducible refine Step.id ?_); first | ((with_reducible apply Step.gdT); exact rfl; exact rfl; (focus (first | rfl | (simp only [decide_eq_true_eq, decide_eq_false_iff_not, Bool.not_eq_true', Bool.not_eq_false', Bool.not_true, Bool.not_false]; first | assumption | omega)))) | ((with_reducible apply Step.gdF); exact rfl; exact rfl; (focus ((simp only [decide_eq_true_eq, decide_eq_false_iff_not, Bool.not_eq_true', Bool.not_eq_false', Bool.not_true, Bool.not_false]; first | assumption | omega)))) | ((with_reducible apply Step.move); exact rfl; exact rfl) | ((with_reducible apply Step.assign); exact rfl; exact rfl) | ((with_reducible apply Step.load); exact rfl; (focus (decide +kernel)); exact rfl; (focus (exact Rd.new rfl rfl))) | ((with_reducible apply Step.loadL (n := 4)); exact rfl; (focus (decide +kernel)); (focus (decide +kernel)); exact rfl; (focus (exact RdL.new rfl rfl)); exact rfl; exact rfl) | ((with_reducible apply Step.field0); exact rfl; (focus (decide +kernel)); exact rfl) | ((with_reducible apply Step.field (k := 1)); exact rfl; (focus (decide +kernel)); exact rfl) | ((with_reducible apply Step.field (k := 2)); exact rfl; (focus (decide +kernel)); exact rfl) | ((with_reducible apply Step.field (k := 3)); exact rfl; (focus (decide +kernel)); exact rfl) | ((with_reducible apply Step.field (k := 4)); exact rfl; (focus (decide +kernel)); exact rfl) | ((with_reducible apply Step.mulE); exact rfl; exact rfl; (focus (assumption)); (focus (omega)); exact rfl) | ((with_reducible apply Step.eql); exact rfl; exact rfl; exact rfl) | ((with_reducible apply Step.neq); exact rfl; exact rfl; exact rfl) | ((with_reducible apply Step.not); exact rfl; exact rfl) | ((with_reducible apply Step.pickT); exact rfl; exact rfl; exact rfl; exact rfl; (focus (rfl))) | ((with_reducible apply Step.pickF); exact rfl; exact rfl; exact rfl; exact rfl; (focus (first | rfl | (simp only [decide_eq_true_eq, decide_eq_false_iff_not, Bool.not_eq_true', Bool.not_eq_false', Bool.not_true, Bool.not_false]; first | assumption | omega)))) | ((with_reducible apply Step.callR fit); exact rfl; exact Tryd.func56; exact rfl; exact rfl; exact (hC _)) | ((with_reducible apply Step.box 0); exact rfl; exact rfl; (focus (kernel_rfl)); exact rfl; (focus (first | (simp only [List.nil_append, List.cons_append, List.set_cons_zero, List.set_cons_succ, iv_set, bv_set, iv_rep, bv_rep]; done) | (simp only [List.nil_append, List.cons_append, List.set_cons_zero, List.set_cons_succ, iv_set, bv_set, iv_rep, bv_rep]; rfl) | rfl))) | ((with_reducible apply Step.box 1); exact rfl; exact rfl; (focus (kernel_rfl)); exact rfl; (focus (first | (simp only [List.nil_append, List.cons_append, List.set_cons_zero, List.set_cons_succ, iv_set, bv_set, iv_rep, bv_rep]; done) | (simp only [List.nil_append, List.cons_append, List.set_cons_zero, List.set_cons_succ, iv_set, bv_set, iv_rep, bv_rep]; rfl) | rfl)))) | (with_reducible refine AWo.nil ?_) | ((with_reducible apply AW.seq)) | ((with_reducible apply Then.n)) | ((with_reducible apply AW.regL)) | ((with_reducible apply AW.drawT fit (T := (.step 0 (.step 1 (.step 2 (.step 3 (.step 5 (.step 7 (.both (.step 4 (.step 6 (.step 8 (.step 9 (.step 10 .done))))) (.both (.step 6 (.both (.step 4 (.step 8 (.step 9 (.step 10 .done)))) (.step 8 (.step 9 (.step 4 (.step 10 .done)))))) (.step 8 (.both (.step 4 (.step 6 (.step 9 (.step 10 .done)))) (.step 6 (.step 9 (.step 4 (.step 10 .done)))))))))))))))); (focus (decide +kernel))) | ((with_reducible apply AWt.step); exact rfl) | ((with_reducible apply AWt.done)) | ((with_reducible apply AW.skip)) | ((with_reducible apply AW.condT); exact rfl; (focus ((simp only [decide_eq_true_eq, decide_eq_false_iff_not, Bool.not_eq_true', Bool.not_eq_false', Bool.not_true, Bool.not_false]; first | assumption | omega)))) | ((with_reducible apply AW.condF); exact rfl; (focus ((simp only [decide_eq_true_eq, decide_eq_false_iff_not, Bool.not_eq_true', Bool.not_eq_false', Bool.not_true, Bool.not_false]; first | assumption | omega)))) | refine AWt.both ?_ ?_))
      all_goals
        (refine AW.retD (l := [(6, _), (7, _)]) (by repeat (first | exact trivial | (refine And.intro ⟨rfl, by (exact .bool _)⟩ ?_))) ?_; (repeat (first | refine Then.r ?_ | refine InBlk.r ?_)))
        exact ⟨_, rfl, no hn⟩
  · have htn : tnB ⟨kw, kh, kg, ko, kt⟩ ⟨x, y, a, bb⟩ = false := by
      unfold tnB
      cases kt with
      | false => rfl
      | true => exact decide_eq_false fun h => v ⟨rfl, h⟩
    have hn : okB B ⟨kw, kh, kg, ko, kt⟩ ⟨x, y, a, bb⟩ = false := by rw [hok, hup, htn]; rfl
    cases kt with
    | false =>
      by_cases u1 : kw = (a : Int)
      · have u2 : ¬ kh = (bb : Int) := fun h => u ⟨u1, h⟩
        (repeat (first | (with_reducible refine AWo.cons ?_) | ((with_reducible refine Step.id ?_); first | ((with_reducible apply Step.gdT); exact rfl; exact rfl; (focus ((simp only [decide_eq_true_eq, decide_eq_false_iff_not, Bool.not_eq_true', Bool.not_eq_false', Bool.not_true, Bool.not_false]; first | assumption | omega)))) | ((with_reducible apply Step.gdF); exact rfl; exact rfl; (focus (rfl))) | ((with_reducible apply Step.move); exact rfl; exact rfl) | ((with_reducible apply Step.assign); exact rfl; exact rfl) | ((with_reducible apply Step.load); exact rfl; (focus (decide +kernel)); exact rfl; (focus (exact Rd.new rfl rfl))) | ((with_reducible apply Step.field0); exact rfl; (focus (decide +kernel)); exact rfl) | ((with_reducible apply Step.field (k := 1)); exact rfl; (focus (decide +kernel)); exact rfl) | ((with_reducible apply Step.field (k := 2)); exact rfl; (focus (decide +kernel)); exact rfl) | ((with_reducible apply Step.field (k := 3)); exact rfl; (focus (decide +kernel)); exact rfl) | ((with_reducible apply Step.field (k := 4)); exact rfl; (focus (decide +kernel)); exact rfl) | ((with_reducible apply Step.eql); exact rfl; exact rfl; exact rfl) | ((with_reducible apply Step.not); exact rfl; exact rfl) | ((with_reducible apply Step.pickT); exact rfl; exact rfl; exact rfl; exact rfl; (focus (first | rfl | (simp only [decide_eq_true_eq, decide_eq_false_iff_not, Bool.not_eq_true', Bool.not_eq_false', Bool.not_true, Bool.not_false]; first | assumption | omega)))) | ((with_reducible apply Step.box 0); exact rfl; exact rfl; (focus (kernel_rfl)); exact rfl; (focus (first | (simp only [List.nil_append, List.cons_append, List.set_cons_zero, List.set_cons_succ, iv_set, bv_set, iv_rep, bv_rep]; done) | (simp only [List.nil_append, List.cons_append, List.set_cons_zero, List.set_cons_succ, iv_set, bv_set, iv_rep, bv_rep]; rfl) | rfl))) | ((with_reducible apply Step.box 1); exact rfl; exact rfl; (focus (kernel_rfl)); exact rfl; (focus (first | (simp only [List.nil_append, List.cons_append, List.set_cons_zero, List.set_cons_succ, iv_set, bv_set, iv_rep, bv_rep]; done) | (simp only [List.nil_append, List.cons_append, List.set_cons_zero, List.set_cons_succ, iv_set, bv_set, iv_rep, bv_rep]; rfl) | rfl)))) | (with_reducible refine AWo.nil ?_) | ((with_reducible apply AW.seq)) | ((with_reducible apply Then.n)) | ((with_reducible apply AW.regL)) | ((with_reducible apply AW.condT); exact rfl; (focus (rfl)))))
        (refine AW.retD (l := [(6, _), (7, _)]) (by repeat (first | exact trivial | (refine And.intro ⟨rfl, by (exact .bool _)⟩ ?_))) ?_; (repeat (first | refine Then.r ?_ | refine InBlk.r ?_)))
        exact ⟨_, rfl, no hn⟩
      · (repeat (first | (with_reducible refine AWo.cons ?_) | ((with_reducible refine Step.id ?_); first | ((with_reducible apply Step.gdT); exact rfl; exact rfl; (focus (rfl))) | ((with_reducible apply Step.gdF); exact rfl; exact rfl; (focus (first | rfl | (simp only [decide_eq_true_eq, decide_eq_false_iff_not, Bool.not_eq_true', Bool.not_eq_false', Bool.not_true, Bool.not_false]; first | assumption | omega)))) | ((with_reducible apply Step.move); exact rfl; exact rfl) | ((with_reducible apply Step.assign); exact rfl; exact rfl) | ((with_reducible apply Step.load); exact rfl; (focus (decide +kernel)); exact rfl; (focus (exact Rd.new rfl rfl))) | ((with_reducible apply Step.field0); exact rfl; (focus (decide +kernel)); exact rfl) | ((with_reducible apply Step.field (k := 2)); exact rfl; (focus (decide +kernel)); exact rfl) | ((with_reducible apply Step.field (k := 4)); exact rfl; (focus (decide +kernel)); exact rfl) | ((with_reducible apply Step.eql); exact rfl; exact rfl; exact rfl) | ((with_reducible apply Step.not); exact rfl; exact rfl) | ((with_reducible apply Step.pickT); exact rfl; exact rfl; exact rfl; exact rfl; (focus (rfl))) | ((with_reducible apply Step.pickF); exact rfl; exact rfl; exact rfl; exact rfl; (focus ((simp only [decide_eq_true_eq, decide_eq_false_iff_not, Bool.not_eq_true', Bool.not_eq_false', Bool.not_true, Bool.not_false]; first | assumption | omega)))) | ((with_reducible apply Step.box 0); exact rfl; exact rfl; (focus (kernel_rfl)); exact rfl; (focus (first | (simp only [List.nil_append, List.cons_append, List.set_cons_zero, List.set_cons_succ, iv_set, bv_set, iv_rep, bv_rep]; done) | (simp only [List.nil_append, List.cons_append, List.set_cons_zero, List.set_cons_succ, iv_set, bv_set, iv_rep, bv_rep]; rfl) | rfl))) | ((with_reducible apply Step.box 1); exact rfl; exact rfl; (focus (kernel_rfl)); exact rfl; (focus (first | (simp only [List.nil_append, List.cons_append, List.set_cons_zero, List.set_cons_succ, iv_set, bv_set, iv_rep, bv_rep]; done) | (simp only [List.nil_append, List.cons_append, List.set_cons_zero, List.set_cons_succ, iv_set, bv_set, iv_rep, bv_rep]; rfl) | rfl)))) | (with_reducible refine AWo.nil ?_) | ((with_reducible apply AW.seq)) | ((with_reducible apply Then.n)) | ((with_reducible apply AW.regL)) | ((with_reducible apply AW.condT); exact rfl; (focus (rfl)))))
        (refine AW.retD (l := [(6, _), (7, _)]) (by repeat (first | exact trivial | (refine And.intro ⟨rfl, by (exact .bool _)⟩ ?_))) ?_; (repeat (first | refine Then.r ?_ | refine InBlk.r ?_)))
        exact ⟨_, rfl, no hn⟩
    | true =>
      by_cases u1 : kw = (a : Int)
      · have u2 : ¬ kh = (bb : Int) := fun h => u ⟨u1, h⟩
        by_cases v2 : kh = (a : Int)
        · have v1 : ¬ kw = (bb : Int) := fun h => v ⟨rfl, h, v2⟩
          (repeat (first | (with_reducible refine AWo.cons ?_) | ((with_reducible refine Step.id ?_); first | ((with_reducible apply Step.gdT); exact rfl; exact rfl; (focus (first | rfl | (simp only [decide_eq_true_eq, decide_eq_false_iff_not, Bool.not_eq_true', Bool.not_eq_false', Bool.not_true, Bool.not_false]; first | assumption | omega)))) | ((with_reducible apply Step.move); exact rfl; exact rfl) | ((with_reducible apply Step.assign); exact rfl; exact rfl) | ((with_reducible apply Step.load); exact rfl; (focus (decide +kernel)); exact rfl; (focus (exact Rd.new rfl rfl))) | ((with_reducible apply Step.field0); exact rfl; (focus (decide +kernel)); exact rfl) | ((with_reducible apply Step.field (k := 1)); exact rfl; (focus (decide +kernel)); exact rfl) | ((with_reducible apply Step.field (k := 2)); exact rfl; (focus (decide +kernel)); exact rfl) | ((with_reducible apply Step.field (k := 3)); exact rfl; (focus (decide +kernel)); exact rfl) | ((with_reducible apply Step.field (k := 4)); exact rfl; (focus (decide +kernel)); exact rfl) | ((with_reducible apply Step.eql); exact rfl; exact rfl; exact rfl) | ((with_reducible apply Step.neq); exact rfl; exact rfl; exact rfl) | ((with_reducible apply Step.not); exact rfl; exact rfl) | ((with_reducible apply Step.pickT); exact rfl; exact rfl; exact rfl; exact rfl; (focus ((simp only [decide_eq_true_eq, decide_eq_false_iff_not, Bool.not_eq_true', Bool.not_eq_false', Bool.not_true, Bool.not_false]; first | assumption | omega)))) | ((with_reducible apply Step.pickF); exact rfl; exact rfl; exact rfl; exact rfl; (focus (first | rfl | (simp only [decide_eq_true_eq, decide_eq_false_iff_not, Bool.not_eq_true', Bool.not_eq_false', Bool.not_true, Bool.not_false]; first | assumption | omega)))) | ((with_reducible apply Step.box 0); exact rfl; exact rfl; (focus (kernel_rfl)); exact rfl; (focus (first | (simp only [List.nil_append, List.cons_append, List.set_cons_zero, List.set_cons_succ, iv_set, bv_set, iv_rep, bv_rep]; done) | (simp only [List.nil_append, List.cons_append, List.set_cons_zero, List.set_cons_succ, iv_set, bv_set, iv_rep, bv_rep]; rfl) | rfl))) | ((with_reducible apply Step.box 1); exact rfl; exact rfl; (focus (kernel_rfl)); exact rfl; (focus (first | (simp only [List.nil_append, List.cons_append, List.set_cons_zero, List.set_cons_succ, iv_set, bv_set, iv_rep, bv_rep]; done) | (simp only [List.nil_append, List.cons_append, List.set_cons_zero, List.set_cons_succ, iv_set, bv_set, iv_rep, bv_rep]; rfl) | rfl)))) | (with_reducible refine AWo.nil ?_) | ((with_reducible apply AW.seq)) | ((with_reducible apply Then.n)) | ((with_reducible apply AW.regL)) | ((with_reducible apply AW.condT); exact rfl; (focus ((simp only [decide_eq_true_eq, decide_eq_false_iff_not, Bool.not_eq_true', Bool.not_eq_false', Bool.not_true, Bool.not_false]; first | assumption | omega))))))
          (refine AW.retD (l := [(6, _), (7, _)]) (by repeat (first | exact trivial | (refine And.intro ⟨rfl, by (exact .bool _)⟩ ?_))) ?_; (repeat (first | refine Then.r ?_ | refine InBlk.r ?_)))
          exact ⟨_, rfl, no hn⟩
        · (repeat (first | (with_reducible refine AWo.cons ?_) | ((with_reducible refine Step.id ?_); first | ((with_reducible apply Step.gdT); exact rfl; exact rfl; (focus (first | rfl | (simp only [decide_eq_true_eq, decide_eq_false_iff_not, Bool.not_eq_true', Bool.not_eq_false', Bool.not_true, Bool.not_false]; first | assumption | omega)))) | ((with_reducible apply Step.gdF); exact rfl; exact rfl; (focus ((simp only [decide_eq_true_eq, decide_eq_false_iff_not, Bool.not_eq_true', Bool.not_eq_false', Bool.not_true, Bool.not_false]; first | assumption | omega)))) | ((with_reducible apply Step.move); exact rfl; exact rfl) | ((with_reducible apply Step.assign); exact rfl; exact rfl) | ((with_reducible apply Step.load); exact rfl; (focus (decide +kernel)); exact rfl; (focus (exact Rd.new rfl rfl))) | ((with_reducible apply Step.field0); exact rfl; (focus (decide +kernel)); exact rfl) | ((with_reducible apply Step.field (k := 1)); exact rfl; (focus (decide +kernel)); exact rfl) | ((with_reducible apply Step.field (k := 2)); exact rfl; (focus (decide +kernel)); exact rfl) | ((with_reducible apply Step.field (k := 3)); exact rfl; (focus (decide +kernel)); exact rfl) | ((with_reducible apply Step.field (k := 4)); exact rfl; (focus (decide +kernel)); exact rfl) | ((with_reducible apply Step.eql); exact rfl; exact rfl; exact rfl) | ((with_reducible apply Step.neq); exact rfl; exact rfl; exact rfl) | ((with_reducible apply Step.not); exact rfl; exact rfl) | ((with_reducible apply Step.pickT); exact rfl; exact rfl; exact rfl; exact rfl; (focus ((simp only [decide_eq_true_eq, decide_eq_false_iff_not, Bool.not_eq_true', Bool.not_eq_false', Bool.not_true, Bool.not_false]; first | assumption | omega)))) | ((with_reducible apply Step.pickF); exact rfl; exact rfl; exact rfl; exact rfl; (focus (rfl))) | ((with_reducible apply Step.box 0); exact rfl; exact rfl; (focus (kernel_rfl)); exact rfl; (focus (first | (simp only [List.nil_append, List.cons_append, List.set_cons_zero, List.set_cons_succ, iv_set, bv_set, iv_rep, bv_rep]; done) | (simp only [List.nil_append, List.cons_append, List.set_cons_zero, List.set_cons_succ, iv_set, bv_set, iv_rep, bv_rep]; rfl) | rfl))) | ((with_reducible apply Step.box 1); exact rfl; exact rfl; (focus (kernel_rfl)); exact rfl; (focus (first | (simp only [List.nil_append, List.cons_append, List.set_cons_zero, List.set_cons_succ, iv_set, bv_set, iv_rep, bv_rep]; done) | (simp only [List.nil_append, List.cons_append, List.set_cons_zero, List.set_cons_succ, iv_set, bv_set, iv_rep, bv_rep]; rfl) | rfl)))) | (with_reducible refine AWo.nil ?_) | ((with_reducible apply AW.seq)) | ((with_reducible apply Then.n)) | ((with_reducible apply AW.regL)) | ((with_reducible apply AW.condT); exact rfl; (focus (rfl)))))
          (refine AW.retD (l := [(6, _), (7, _)]) (by repeat (first | exact trivial | (refine And.intro ⟨rfl, by (exact .bool _)⟩ ?_))) ?_; (repeat (first | refine Then.r ?_ | refine InBlk.r ?_)))
          exact ⟨_, rfl, no hn⟩
      · by_cases v2 : kh = (a : Int)
        · have v1 : ¬ kw = (bb : Int) := fun h => v ⟨rfl, h, v2⟩
          (repeat (first | (with_reducible refine AWo.cons ?_) | ((with_reducible refine Step.id ?_); first | ((with_reducible apply Step.gdT); exact rfl; exact rfl; (focus (first | rfl | (simp only [decide_eq_true_eq, decide_eq_false_iff_not, Bool.not_eq_true', Bool.not_eq_false', Bool.not_true, Bool.not_false]; first | assumption | omega)))) | ((with_reducible apply Step.gdF); exact rfl; exact rfl; (focus ((simp only [decide_eq_true_eq, decide_eq_false_iff_not, Bool.not_eq_true', Bool.not_eq_false', Bool.not_true, Bool.not_false]; first | assumption | omega)))) | ((with_reducible apply Step.move); exact rfl; exact rfl) | ((with_reducible apply Step.assign); exact rfl; exact rfl) | ((with_reducible apply Step.load); exact rfl; (focus (decide +kernel)); exact rfl; (focus (exact Rd.new rfl rfl))) | ((with_reducible apply Step.field0); exact rfl; (focus (decide +kernel)); exact rfl) | ((with_reducible apply Step.field (k := 1)); exact rfl; (focus (decide +kernel)); exact rfl) | ((with_reducible apply Step.field (k := 2)); exact rfl; (focus (decide +kernel)); exact rfl) | ((with_reducible apply Step.field (k := 3)); exact rfl; (focus (decide +kernel)); exact rfl) | ((with_reducible apply Step.field (k := 4)); exact rfl; (focus (decide +kernel)); exact rfl) | ((with_reducible apply Step.eql); exact rfl; exact rfl; exact rfl) | ((with_reducible apply Step.neq); exact rfl; exact rfl; exact rfl) | ((with_reducible apply Step.not); exact rfl; exact rfl) | ((with_reducible apply Step.pickT); exact rfl; exact rfl; exact rfl; exact rfl; (focus (rfl))) | ((with_reducible apply Step.pickF); exact rfl; exact rfl; exact rfl; exact rfl; (focus (first | rfl | (simp only [decide_eq_true_eq, decide_eq_false_iff_not, Bool.not_eq_true', Bool.not_eq_false', Bool.not_true, Bool.not_false]; first | assumption | omega)))) | ((with_reducible apply Step.box 0); exact rfl; exact rfl; (focus (kernel_rfl)); exact rfl; (focus (first | (simp only [List.nil_append, List.cons_append, List.set_cons_zero, List.set_cons_succ, iv_set, bv_set, iv_rep, bv_rep]; done) | (simp only [List.nil_append, List.cons_append, List.set_cons_zero, List.set_cons_succ, iv_set, bv_set, iv_rep, bv_rep]; rfl) | rfl))) | ((with_reducible apply Step.box 1); exact rfl; exact rfl; (focus (kernel_rfl)); exact rfl; (focus (first | (simp only [List.nil_append, List.cons_append, List.set_cons_zero, List.set_cons_succ, iv_set, bv_set, iv_rep, bv_rep]; done) | (simp only [List.nil_append, List.cons_append, List.set_cons_zero, List.set_cons_succ, iv_set, bv_set, iv_rep, bv_rep]; rfl) | rfl)))) | (with_reducible refine AWo.nil ?_) | ((with_reducible apply AW.seq)) | ((with_reducible apply Then.n)) | ((with_reducible apply AW.regL)) | ((with_reducible apply AW.condT); exact rfl; (focus ((simp only [decide_eq_true_eq, decide_eq_false_iff_not, Bool.not_eq_true', Bool.not_eq_false', Bool.not_true, Bool.not_false]; first | assumption | omega))))))
          (refine AW.retD (l := [(6, _), (7, _)]) (by repeat (first | exact trivial | (refine And.intro ⟨rfl, by (exact .bool _)⟩ ?_))) ?_; (repeat (first | refine Then.r ?_ | refine InBlk.r ?_)))
          exact ⟨_, rfl, no hn⟩
        · (repeat (first | (with_reducible refine AWo.cons ?_) | ((with_reducible refine Step.id ?_); first | ((with_reducible apply Step.gdT); exact rfl; exact rfl; (focus (rfl))) | ((with_reducible apply Step.gdF); exact rfl; exact rfl; (focus ((simp only [decide_eq_true_eq, decide_eq_false_iff_not, Bool.not_eq_true', Bool.not_eq_false', Bool.not_true, Bool.not_false]; first | assumption | omega)))) | ((with_reducible apply Step.move); exact rfl; exact rfl) | ((with_reducible apply Step.assign); exact rfl; exact rfl) | ((with_reducible apply Step.load); exact rfl; (focus (decide +kernel)); exact rfl; (focus (exact Rd.new rfl rfl))) | ((with_reducible apply Step.field0); exact rfl; (focus (decide +kernel)); exact rfl) | ((with_reducible apply Step.field (k := 1)); exact rfl; (focus (decide +kernel)); exact rfl) | ((with_reducible apply Step.field (k := 2)); exact rfl; (focus (decide +kernel)); exact rfl) | ((with_reducible apply Step.field (k := 4)); exact rfl; (focus (decide +kernel)); exact rfl) | ((with_reducible apply Step.eql); exact rfl; exact rfl; exact rfl) | ((with_reducible apply Step.neq); exact rfl; exact rfl; exact rfl) | ((with_reducible apply Step.not); exact rfl; exact rfl) | ((with_reducible apply Step.pickT); exact rfl; exact rfl; exact rfl; exact rfl; (focus (first | rfl | (simp only [decide_eq_true_eq, decide_eq_false_iff_not, Bool.not_eq_true', Bool.not_eq_false', Bool.not_true, Bool.not_false]; first | assumption | omega)))) | ((with_reducible apply Step.pickF); exact rfl; exact rfl; exact rfl; exact rfl; (focus (first | rfl | (simp only [decide_eq_true_eq, decide_eq_false_iff_not, Bool.not_eq_true', Bool.not_eq_false', Bool.not_true, Bool.not_false]; first | assumption | omega)))) | ((with_reducible apply Step.box 0); exact rfl; exact rfl; (focus (kernel_rfl)); exact rfl; (focus (first | (simp only [List.nil_append, List.cons_append, List.set_cons_zero, List.set_cons_succ, iv_set, bv_set, iv_rep, bv_rep]; done) | (simp only [List.nil_append, List.cons_append, List.set_cons_zero, List.set_cons_succ, iv_set, bv_set, iv_rep, bv_rep]; rfl) | rfl))) | ((with_reducible apply Step.box 1); exact rfl; exact rfl; (focus (kernel_rfl)); exact rfl; (focus (first | (simp only [List.nil_append, List.cons_append, List.set_cons_zero, List.set_cons_succ, iv_set, bv_set, iv_rep, bv_rep]; done) | (simp only [List.nil_append, List.cons_append, List.set_cons_zero, List.set_cons_succ, iv_set, bv_set, iv_rep, bv_rep]; rfl) | rfl)))) | (with_reducible refine AWo.nil ?_) | ((with_reducible apply AW.seq)) | ((with_reducible apply Then.n)) | ((with_reducible apply AW.regL)) | ((with_reducible apply AW.condT); exact rfl; (focus (rfl)))))
          (refine AW.retD (l := [(6, _), (7, _)]) (by repeat (first | exact trivial | (refine And.intro ⟨rfl, by (exact .bool _)⟩ ?_))) ?_; (repeat (first | refine Then.r ?_ | refine InBlk.r ?_)))
          exact ⟨_, rfl, no hn⟩
def atN (B : Brd) (K : List Kd) (r : R4) : Nat → Int
  | 0 => -1
  | i + 1 => if okB B (K.getD i default) r = true ∧ leafN B K r i < (K.getD i default).worth then (i : Int) else atN B K r i
set_option maxHeartbeats 4000000 in
set_option maxRecDepth 100000 in
theorem piece_ok {m : AM} {sv kv : Value} {B : Brd} {K : List Kd} (hs : Strs m sv B) (hk : Kds m kv K) (hg : goodB B K = true) {r : R4} (hr : r.ok (bw B) (bh B)) :
    ACall Tryd.prog 78 #[sv, kv, r.rc.v] m (Ret (.tuple #[.int .i64 (leafM B K r), .int .i64 (atN B K r K.length)]) m) := by
  have hgb : boardB B = true := by simp only [goodB, Bool.and_eq_true] at hg; exact hg.1
  have hkl : K.length ≤ 12 := by simp only [goodB, kindsB, Bool.and_eq_true, decide_eq_true_eq] at hg; exact hg.2.1
  have hf := fun T k => RFits_ok (hs.old T) hgb k hr
  obtain ⟨A1, O1, sl1, la1, rd1⟩ := hs
  obtain ⟨q1, c1, rfl⟩ := sl1.shape
  have w1 : Low m.length (.slice q1 B.length c1) := Low.of_sl sl1 la1
  obtain ⟨A, O, sl, la, rd⟩ := hk
  obtain ⟨q', c', rfl⟩ := sl.shape
  have w2 : Low m.length (.slice q' K.length c') := Low.of_sl sl la
  obtain ⟨x, y, a, b⟩ := r
  have r0 : ∀ T : AM, RdL (m ++ (some { cells := [.int .i64 (x : Nat), .int .i64 (y : Nat), .int .i64 (a : Nat), .int .i64 (b : Nat)] } :: T)) (m.length + 0) 0 [.int .i64 (x : Nat), .int .i64 (y : Nat), .int .i64 (a : Nat), .int .i64 (b : Nat)] := fun T => RdL.new rfl rfl
  change ACall Tryd.prog 78 #[_, _, .agg #[.int .i64 (x : Nat), .int .i64 (y : Nat), .int .i64 (a : Nat), .int .i64 (b : Nat)]] m _
  change ∀ (T : AM) (k : Kd), ACall Tryd.prog 55 #[_, .agg k.cells.toArray, .agg ([.int .i64 (x : Nat), .int .i64 (y : Nat), .int .i64 (a : Nat), .int .i64 (b : Nat)] : List Value).toArray] (m ++ T) _ at hf
  generalize (⟨x, y, a, b⟩ : R4) = r at hf ⊢
  refine ACall.start Tryd.func78 rfl rfl ?_
  (repeat (first | (with_reducible refine AWo.cons ?_) | ((with_reducible refine Step.id ?_); first | ((with_reducible apply Step.move); exact rfl; exact rfl) | ((with_reducible apply Step.assign); exact rfl; exact rfl) | ((with_reducible apply Step.len); exact rfl; (focus (assumption)); (focus (decide +kernel)); exact rfl) | ((with_reducible apply Step.box 0); exact rfl; exact rfl; (focus (kernel_rfl)); exact rfl; (focus (first | (simp only [List.nil_append, List.cons_append, List.set_cons_zero, List.set_cons_succ, iv_set, bv_set, iv_rep, bv_rep]; done) | (simp only [List.nil_append, List.cons_append, List.set_cons_zero, List.set_cons_succ, iv_set, bv_set, iv_rep, bv_rep]; rfl) | rfl)))) | (with_reducible refine AWo.nil ?_) | ((with_reducible apply AW.seq)) | ((with_reducible apply Then.n)) | ((with_reducible apply AW.regL)) | ((with_reducible apply AW.block))))
  refine AW.loopT (fun n t L => ∃ i : Nat, n = K.length - i ∧ i ≤ K.length ∧ L = [some { cells := [.int .i64 (x : Nat), .int .i64 (y : Nat), .int .i64 (a : Nat), .int .i64 (b : Nat)] }] ∧
    t = [(0, .slice q1 B.length c1), (5, .pointer (some ⟨m.length + 0, 0, none⟩)), (8, .int .i64 (leafN B K r i)), (9, .int .i64 (atN B K r i)), (14, .slice q' K.length c'), (15, .int .i64 (K.length : Nat)), (16, .int .i64 (i : Nat))])
    ⟨_, _, _, (Or.inl ⟨rfl, (by repeat (first | exact trivial | (refine And.intro rfl ?_)))⟩), 0, rfl, Nat.zero_le _, rfl, rfl⟩ ?_
  rintro n t L ⟨i, rfl, hi, rfl, rfl⟩
  rcases Nat.lt_or_ge i K.length with hlt | hge
  · have rk := rd i hlt
    have hfi := fun T => hf T (K.getD i default)
    have hst : leafN B K r (i + 1) = if okB B (K.getD i default) r = true ∧ leafN B K r i < (K.getD i default).worth then (K.getD i default).worth else leafN B K r i := by rw [← fitsM_some]; rfl
    have hat : atN B K r (i + 1) = if okB B (K.getD i default) r = true ∧ leafN B K r i < (K.getD i default).worth then (i : Int) else atN B K r i := rfl
    generalize K.getD i default = kd at *
    obtain ⟨kw, kh, kg, ko, kt⟩ := kd
    simp only [Kd.cells] at rk hfi
    simp only at hst hat
    have r1 : ∀ b0 (T : AM), RdL (m ++ (b0 :: some { cells := [.int .i64 kw, .int .i64 kh, .int .i64 kg, .int .i64 ko, .bool kt] } :: T)) (m.length + 1) 0 [.int .i64 kw, .int .i64 kh, .int .i64 kg, .int .i64 ko, .bool kt] := fun b0 T => RdL.new rfl rfl
    cases h2 : okB B ⟨kw, kh, kg, ko, kt⟩ r with
    | true =>
      rw [h2] at hfi
      by_cases h1 : leafN B K r i < ko
      · rw [h2, if_pos ⟨rfl, h1⟩] at hst hat
        (repeat (first | (with_reducible refine AWo.cons ?_) | ((with_reducible refine Step.id ?_); first | ((with_reducible apply Step.gdT); exact rfl; exact rfl; (focus (rfl))) | ((with_reducible apply Step.move); exact rfl; exact rfl) | ((with_reducible apply Step.assign); exact rfl; exact rfl) | ((with_reducible apply Step.load); exact rfl; (focus (decide +kernel)); exact rfl; (focus (exact Rd.new rfl rfl))) | ((with_reducible apply Step.loadL (n := 4)); exact rfl; (focus (decide +kernel)); (focus (decide +kernel)); exact rfl; (focus (exact RdL.new rfl rfl)); exact rfl; exact rfl) | ((with_reducible apply Step.loadL (n := 5)); exact rfl; (focus (decide +kernel)); (focus (decide +kernel)); exact rfl; (focus (first | exact RdL.new rfl rfl | exact RdL.old _ (by assumption))); exact rfl; exact rfl) | ((with_reducible apply Step.ix (s := 5)); exact rfl; (focus (assumption)); exact rfl; (focus (decide +kernel)); exact rfl; (focus (omega))) | ((with_reducible apply Step.field (k := 3)); exact rfl; (focus (decide +kernel)); exact rfl) | ((with_reducible apply Step.add); exact rfl; exact rfl; (focus (omega)); exact rfl) | ((with_reducible apply Step.lss); exact rfl; exact rfl; exact rfl) | ((with_reducible apply Step.gtr); exact rfl; exact rfl; exact rfl) | ((with_reducible apply Step.extract); exact rfl; exact rfl; exact rfl) | ((with_reducible apply Step.pickT); exact rfl; exact rfl; exact rfl; exact rfl; (focus (rfl))) | ((with_reducible apply Step.callR fit); exact rfl; exact Tryd.func55; exact rfl; exact rfl; exact (hfi _)) | ((with_reducible apply Step.alloc 1); exact rfl; exact ze33; exact rfl; (focus (first | (simp only [List.nil_append, List.cons_append, List.set_cons_zero, List.set_cons_succ, iv_set, bv_set, iv_rep, bv_rep]; done) | (simp only [List.nil_append, List.cons_append, List.set_cons_zero, List.set_cons_succ, iv_set, bv_set, iv_rep, bv_rep]; rfl) | rfl))) | ((with_reducible apply Step.storeA (k := 1) (n := 5)); exact rfl; exact rfl; exact rfl; exact rfl; (focus (decide +kernel)); exact rfl; (focus (kernel_rfl)); exact rfl; (focus (first | (simp only [List.nil_append, List.cons_append, List.set_cons_zero, List.set_cons_succ, iv_set, bv_set, iv_rep, bv_rep]; done) | (simp only [List.nil_append, List.cons_append, List.set_cons_zero, List.set_cons_succ, iv_set, bv_set, iv_rep, bv_rep]; rfl) | rfl)))) | (with_reducible refine AWo.nil ?_) | ((with_reducible apply AW.seq)) | ((with_reducible apply Then.n)) | ((with_reducible apply AW.regL)) | ((with_reducible apply AW.block)) | ((with_reducible apply InBlk.n)) | ((with_reducible apply AW.skip)) | ((with_reducible apply AW.condT); exact rfl; (focus ((simp only [decide_eq_true_eq, decide_eq_false_iff_not, Bool.not_eq_true', Bool.not_eq_false', Bool.not_true, Bool.not_false]; first | assumption | omega))))))
        exact ⟨_, [(0, .slice q1 B.length c1), (5, .pointer (some ⟨m.length + 0, 0, none⟩)), (8, .int .i64 ko), (9, .int .i64 (i : Nat)), (14, .slice q' K.length c'), (15, .int .i64 (K.length : Nat)), (16, .int .i64 (i + 1 : Nat))], [some { cells := [.int .i64 (x : Nat), .int .i64 (y : Nat), .int .i64 (a : Nat), .int .i64 (b : Nat)] }], by omega, (Back.trim rfl rfl (by repeat (first | exact CellsOk.nil | refine CellsOk.cons (by (intro v hv; simp at hv; first | (subst hv; rfl) | (rcases hv with rfl | rfl <;> rfl) | (rcases hv with rfl | rfl | rfl <;> rfl) | (rcases hv with rfl | rfl | rfl | rfl <;> rfl))) ?_)) (by repeat (first | exact trivial | (refine And.intro ⟨rfl, by (first | exact Low.rid (by assumption) (by simp) | exact .int _ _ | exact .ptr _ _ (by first | (simp; done) | omega | (simp; omega)))⟩ ?_)))), i + 1, rfl, by omega, rfl, by rw [hst, hat]⟩
      · rw [h2, if_neg (by omega)] at hst hat
        (repeat (first | (with_reducible refine AWo.cons ?_) | ((with_reducible refine Step.id ?_); first | ((with_reducible apply Step.gdT); exact rfl; exact rfl; (focus (rfl))) | ((with_reducible apply Step.move); exact rfl; exact rfl) | ((with_reducible apply Step.assign); exact rfl; exact rfl) | ((with_reducible apply Step.load); exact rfl; (focus (decide +kernel)); exact rfl; (focus (exact Rd.new rfl rfl))) | ((with_reducible apply Step.loadL (n := 4)); exact rfl; (focus (decide +kernel)); (focus (decide +kernel)); exact rfl; (focus (exact RdL.new rfl rfl)); exact rfl; exact rfl) | ((with_reducible apply Step.loadL (n := 5)); exact rfl; (focus (decide +kernel)); (focus (decide +kernel)); exact rfl; (focus (first | exact RdL.new rfl rfl | exact RdL.old _ (by assumption))); exact rfl; exact rfl) | ((with_reducible apply Step.ix (s := 5)); exact rfl; (focus (assumption)); exact rfl; (focus (decide +kernel)); exact rfl; (focus (omega))) | ((with_reducible apply Step.field (k := 3)); exact rfl; (focus (decide +kernel)); exact rfl) | ((with_reducible apply Step.add); exact rfl; exact rfl; (focus (omega)); exact rfl) | ((with_reducible apply Step.lss); exact rfl; exact rfl; exact rfl) | ((with_reducible apply Step.gtr); exact rfl; exact rfl; exact rfl) | ((with_reducible apply Step.extract); exact rfl; exact rfl; exact rfl) | ((with_reducible apply Step.pickT); exact rfl; exact rfl; exact rfl; exact rfl; (focus (rfl))) | ((with_reducible apply Step.callR fit); exact rfl; exact Tryd.func55; exact rfl; exact rfl; exact (hfi _)) | ((with_reducible apply Step.alloc 1); exact rfl; exact ze33; exact rfl; (focus (first | (simp only [List.nil_append, List.cons_append, List.set_cons_zero, List.set_cons_succ, iv_set, bv_set, iv_rep, bv_rep]; done) | (simp only [List.nil_append, List.cons_append, List.set_cons_zero, List.set_cons_succ, iv_set, bv_set, iv_rep, bv_rep]; rfl) | rfl))) | ((with_reducible apply Step.storeA (k := 1) (n := 5)); exact rfl; exact rfl; exact rfl; exact rfl; (focus (decide +kernel)); exact rfl; (focus (kernel_rfl)); exact rfl; (focus (first | (simp only [List.nil_append, List.cons_append, List.set_cons_zero, List.set_cons_succ, iv_set, bv_set, iv_rep, bv_rep]; done) | (simp only [List.nil_append, List.cons_append, List.set_cons_zero, List.set_cons_succ, iv_set, bv_set, iv_rep, bv_rep]; rfl) | rfl)))) | (with_reducible refine AWo.nil ?_) | ((with_reducible apply AW.seq)) | ((with_reducible apply Then.n)) | ((with_reducible apply AW.regL)) | ((with_reducible apply AW.block)) | ((with_reducible apply InBlk.n)) | ((with_reducible apply AW.skip)) | ((with_reducible apply AW.condT); exact rfl; (focus ((simp only [decide_eq_true_eq, decide_eq_false_iff_not, Bool.not_eq_true', Bool.not_eq_false', Bool.not_true, Bool.not_false]; first | assumption | omega)))) | ((with_reducible apply AW.condF); exact rfl; (focus ((simp only [decide_eq_true_eq, decide_eq_false_iff_not, Bool.not_eq_true', Bool.not_eq_false', Bool.not_true, Bool.not_false]; first | assumption | omega))))))
        exact ⟨_, [(0, .slice q1 B.length c1), (5, .pointer (some ⟨m.length + 0, 0, none⟩)), (8, .int .i64 (leafN B K r i)), (9, .int .i64 (atN B K r i)), (14, .slice q' K.length c'), (15, .int .i64 (K.length : Nat)), (16, .int .i64 (i + 1 : Nat))], [some { cells := [.int .i64 (x : Nat), .int .i64 (y : Nat), .int .i64 (a : Nat), .int .i64 (b : Nat)] }], by omega, (Back.trim rfl rfl (by repeat (first | exact CellsOk.nil | refine CellsOk.cons (by (intro v hv; simp at hv; first | (subst hv; rfl) | (rcases hv with rfl | rfl <;> rfl) | (rcases hv with rfl | rfl | rfl <;> rfl) | (rcases hv with rfl | rfl | rfl | rfl <;> rfl))) ?_)) (by repeat (first | exact trivial | (refine And.intro ⟨rfl, by (first | exact Low.rid (by assumption) (by simp) | exact .int _ _ | exact .ptr _ _ (by first | (simp; done) | omega | (simp; omega)))⟩ ?_)))), i + 1, rfl, by omega, rfl, by rw [hst, hat]⟩
    | false =>
      rw [h2] at hfi
      rw [h2, if_neg (by simp)] at hst hat
      (repeat (first | (with_reducible refine AWo.cons ?_) | ((with_reducible refine Step.id ?_); first | ((with_reducible apply Step.gdF); exact rfl; exact rfl; (focus (rfl))) | ((with_reducible apply Step.move); exact rfl; exact rfl) | ((with_reducible apply Step.assign); exact rfl; exact rfl) | ((with_reducible apply Step.loadL (n := 4)); exact rfl; (focus (decide +kernel)); (focus (decide +kernel)); exact rfl; (focus (exact RdL.new rfl rfl)); exact rfl; exact rfl) | ((with_reducible apply Step.loadL (n := 5)); exact rfl; (focus (decide +kernel)); (focus (decide +kernel)); exact rfl; (focus (first | exact RdL.new rfl rfl | exact RdL.old _ (by assumption))); exact rfl; exact rfl) | ((with_reducible apply Step.ix (s := 5)); exact rfl; (focus (assumption)); exact rfl; (focus (decide +kernel)); exact rfl; (focus (omega))) | ((with_reducible apply Step.add); exact rfl; exact rfl; (focus (omega)); exact rfl) | ((with_reducible apply Step.lss); exact rfl; exact rfl; exact rfl) | ((with_reducible apply Step.extract); exact rfl; exact rfl; exact rfl) | ((with_reducible apply Step.pickF); exact rfl; exact rfl; exact rfl; exact rfl; (focus (rfl))) | ((with_reducible apply Step.callR fit); exact rfl; exact Tryd.func55; exact rfl; exact rfl; exact (hfi _)) | ((with_reducible apply Step.alloc 1); exact rfl; exact ze33; exact rfl; (focus (first | (simp only [List.nil_append, List.cons_append, List.set_cons_zero, List.set_cons_succ, iv_set, bv_set, iv_rep, bv_rep]; done) | (simp only [List.nil_append, List.cons_append, List.set_cons_zero, List.set_cons_succ, iv_set, bv_set, iv_rep, bv_rep]; rfl) | rfl))) | ((with_reducible apply Step.storeA (k := 1) (n := 5)); exact rfl; exact rfl; exact rfl; exact rfl; (focus (decide +kernel)); exact rfl; (focus (kernel_rfl)); exact rfl; (focus (first | (simp only [List.nil_append, List.cons_append, List.set_cons_zero, List.set_cons_succ, iv_set, bv_set, iv_rep, bv_rep]; done) | (simp only [List.nil_append, List.cons_append, List.set_cons_zero, List.set_cons_succ, iv_set, bv_set, iv_rep, bv_rep]; rfl) | rfl)))) | (with_reducible refine AWo.nil ?_) | ((with_reducible apply AW.seq)) | ((with_reducible apply Then.n)) | ((with_reducible apply AW.regL)) | ((with_reducible apply AW.block)) | ((with_reducible apply InBlk.n)) | ((with_reducible apply AW.skip)) | ((with_reducible apply AW.condT); exact rfl; (focus ((simp only [decide_eq_true_eq, decide_eq_false_iff_not, Bool.not_eq_true', Bool.not_eq_false', Bool.not_true, Bool.not_false]; first | assumption | omega)))) | ((with_reducible apply AW.condF); exact rfl; (focus (rfl)))))
      exact ⟨_, [(0, .slice q1 B.length c1), (5, .pointer (some ⟨m.length + 0, 0, none⟩)), (8, .int .i64 (leafN B K r i)), (9, .int .i64 (atN B K r i)), (14, .slice q' K.length c'), (15, .int .i64 (K.length : Nat)), (16, .int .i64 (i + 1 : Nat))], [some { cells := [.int .i64 (x : Nat), .int .i64 (y : Nat), .int .i64 (a : Nat), .int .i64 (b : Nat)] }], by omega, (Back.trim rfl rfl (by repeat (first | exact CellsOk.nil | refine CellsOk.cons (by (intro v hv; simp at hv; first | (subst hv; rfl) | (rcases hv with rfl | rfl <;> rfl) | (rcases hv with rfl | rfl | rfl <;> rfl) | (rcases hv with rfl | rfl | rfl | rfl <;> rfl))) ?_)) (by repeat (first | exact trivial | (refine And.intro ⟨rfl, by (first | exact Low.rid (by assumption) (by simp) | exact .int _ _ | exact .ptr _ _ (by first | (simp; done) | omega | (simp; omega)))⟩ ?_)))), i + 1, rfl, by omega, rfl, by rw [hst, hat]⟩
  · obtain rfl : i = K.length := by omega
    (repeat (first | (with_reducible refine AWo.cons ?_) | ((with_reducible refine Step.id ?_); first | ((with_reducible apply Step.move); exact rfl; exact rfl) | ((with_reducible apply Step.assign); exact rfl; exact rfl) | ((with_reducible apply Step.lss); exact rfl; exact rfl; exact rfl)) | (with_reducible refine AWo.nil ?_) | ((with_reducible apply AW.seq)) | ((with_reducible apply Then.n)) | ((with_reducible apply AW.regL)) | ((with_reducible apply AW.exit)) | ((with_reducible apply InBlk.hit)) | ((with_reducible apply Then.e)) | ((with_reducible apply AW.condF); exact rfl; (focus ((simp only [decide_eq_true_eq, decide_eq_false_iff_not, Bool.not_eq_true', Bool.not_eq_false', Bool.not_true, Bool.not_false]; first | assumption | omega))))))
    (refine AW.retD (l := [(6, _), (7, _)]) (by repeat (first | exact trivial | (refine And.intro ⟨rfl, by (exact .int _ _)⟩ ?_))) ?_; (repeat (first | refine Then.r ?_ | refine InBlk.r ?_)))
    exact ⟨_, rfl, rfl, rfl⟩
end Go.Proofs.YtibhgdglbillaaaDoor.Abs
namespace Go.Proofs.YtibhgdglbillaaaDoor.Abs
set_option linter.unusedSimpArgs false
set_option linter.unusedVariables false
open Go.RowKit
open Go.Proofs.YtibhgdglbillaaaDoor.Sim
open Go.Proofs
def kvc (l : List Kd) : List Value := l.flatMap Kd.cells
theorem kvc_len (l : List Kd) : (kvc l).length = l.length * 5 := by
  induction l with
  | nil => rfl
  | cons k l ih =>
    have : kvc (k :: l) = k.cells ++ kvc l := rfl
    rw [this, List.length_append, ih]
    simp [Kd.cells]
    omega
theorem kvc_snoc (l : List Kd) (k : Kd) : kvc (l ++ [k]) = kvc l ++ k.cells := by simp [kvc]
theorem kvc_get : ∀ (l : List Kd) (i : Nat), i < l.length → ∀ (j : Nat) (v : Value), (l.getD i default).cells[j]? = some v → (kvc l)[i * 5 + j]? = some v
  | [], i, hi, _, _, _ => by simp at hi
  | k :: l, 0, _, j, v, hj => by
    have : kvc (k :: l) = k.cells ++ kvc l := rfl
    change k.cells[j]? = some v at hj
    rw [this, Nat.zero_mul, Nat.zero_add, List.getElem?_append_left (List.getElem?_eq_some_iff.1 hj).1]
    exact hj
  | k :: l, i + 1, hi, j, v, hj => by
    have e : kvc (k :: l) = k.cells ++ kvc l := rfl
    have hl : k.cells.length = 5 := rfl
    rw [e, List.getElem?_append_right (by omega), hl, show (i + 1) * 5 + j - 5 = i * 5 + j by omega]
    exact kvc_get l i (by simpa using hi) j v hj
theorem g0_kvc (l : List Kd) : ∀ v ∈ kvc l, g0 v = true := fun v hv => by
  simp only [kvc, List.mem_flatMap] at hv
  obtain ⟨k, _, hk⟩ := hv
  simp [Kd.cells] at hk
  rcases hk with rfl | rfl | rfl | rfl | rfl <;> rfl
theorem good_take (B : Brd) (K : List Kd) : goodB B (K.take 14) = goodB B K := by
  rcases Nat.lt_or_ge 14 K.length with h | h
  · have h1 : kindsB K = false := by simp [kindsB]; omega
    have h2 : kindsB (K.take 14) = false := by simp [kindsB]; omega
    simp [goodB, h1, h2]
  · rw [List.take_of_length_le h]
theorem good_len {B : Brd} {K : List Kd} (h : goodB B K = true) : K.take 14 = K := by
  simp only [goodB, kindsB, Bool.and_eq_true, decide_eq_true_eq] at h
  exact List.take_of_length_le (by omega)
theorem bl99b {a b c d : Int} {t : Bool} : abuild Tryd.prog 99 [(0, .int .i64 a), (1, .int .i64 b), (2, .int .i64 c), (3, .int .i64 d), (4, .bool t)] = some (.agg #[.int .i64 a, .int .i64 b, .int .i64 c, .int .i64 d, .bool t]) := by kernel_rfl
theorem bs35x {m : AM} {k : Nat} {a b c d : Int} {t : Bool} : abuildSlice Tryd.prog m k 35 1 [(0, .agg #[.int .i64 a, .int .i64 b, .int .i64 c, .int .i64 d, .bool t])] = some (.slice (some ⟨k, 0, none⟩) 1 1, m.set k (some { cells := [.int .i64 a, .int .i64 b, .int .i64 c, .int .i64 d, .bool t] })) := by kernel_rfl
theorem el35 : elemB Tryd.prog 35 = some (99, 5, 40, #[.int .i64 0, .int .i64 0, .int .i64 0, .int .i64 0, .bool false]) := by kernel_rfl
theorem un35 : Tryd.prog.underlying 35 = some (.slice 99) := by kernel_rfl
set_option maxHeartbeats 4000000 in
set_option maxRecDepth 100000 in
theorem of_ok {m : AM} {kv : Value} {K : List Kd} (hk : Kds m kv K) (hlen : K.length ≤ 9223372036854775807) : ACall Tryd.prog 23 #[kv] m (NewG (kvc (K.take 14)) 5 (K.take 14).length m) := by
  obtain ⟨A, O, sl, la, rd⟩ := hk
  obtain ⟨q, c, rfl⟩ := sl.shape
  have wl : Low m.length (.slice q K.length c) := Low.of_sl sl la
  refine ACall.start Tryd.func23 rfl rfl ?_
  (repeat (first | (with_reducible refine AWo.cons ?_) | ((with_reducible refine Step.id ?_); first | ((with_reducible apply Step.move); exact rfl; exact rfl) | ((with_reducible apply Step.assign); exact rfl; exact rfl) | ((with_reducible apply Step.len); exact rfl; (focus (assumption)); (focus (decide +kernel)); exact rfl)) | (with_reducible refine AWo.nil ?_) | ((with_reducible apply AW.seq)) | ((with_reducible apply Then.n)) | ((with_reducible apply AW.regL)) | ((with_reducible apply AW.block))))
  refine AW.loopT (fun n t L => ∃ i : Nat, n = K.length - i ∧ i ≤ K.length ∧ i ≤ 14 ∧ L = [gb (kvc (K.take i)) 5] ∧
    t = [(0, .slice q K.length c), (3, gv (m.length + 0) i), (6, .slice q K.length c), (7, .int .i64 (K.length : Nat)), (8, .int .i64 (i : Nat))])
    ⟨_, _, [none], (Back.padC rfl (by repeat (first | exact trivial | (refine And.intro ⟨rfl, by (first | exact Low.rid (by assumption) (by simp) | exact .int _ _ | exact Ren.of_gv (by first | (simp; done) | omega | (simp; omega)))⟩ ?_))) (by repeat (exact CellsP.nil))), 0, rfl, Nat.zero_le _, Nat.zero_le _, rfl, rfl⟩ ?_
  rintro n t L ⟨i, rfl, hi, hi14, rfl, rfl⟩
  rcases Nat.lt_or_ge i K.length with hlt | hge
  · have rk := rd i hlt
    have hs : K.take (i + 1) = K.take i ++ [K.getD i default] := take_snoc K i default hlt
    generalize K.getD i default = k at rk hs
    obtain ⟨kw, kh, kg, ko, kt⟩ := k
    simp only [Kd.cells] at rk
    by_cases h13 : 13 < i
    · obtain rfl : i = 14 := by omega
      have hg0 := g0_kvc (K.take 14)
      (repeat (first | (with_reducible refine AWo.cons ?_) | ((with_reducible refine Step.id ?_); first | ((with_reducible apply Step.move); exact rfl; exact rfl) | ((with_reducible apply Step.assign); exact rfl; exact rfl) | ((with_reducible apply Step.loadL (n := 5)); exact rfl; (focus (decide +kernel)); (focus (decide +kernel)); exact rfl; (focus (exact RdL.old _ (by assumption))); exact rfl; exact rfl) | ((with_reducible apply Step.ix (s := 5)); exact rfl; (focus (assumption)); exact rfl; (focus (decide +kernel)); exact rfl; (focus (omega))) | ((with_reducible apply Step.lss); exact rfl; exact rfl; exact rfl) | ((with_reducible apply Step.gtr); exact rfl; exact rfl; exact rfl) | ((with_reducible apply Step.alloc 1); exact rfl; exact ze33; exact rfl; (focus (first | (simp only [List.nil_append, List.cons_append, List.set_cons_zero, List.set_cons_succ, iv_set, bv_set, iv_rep, bv_rep]; done) | (simp only [List.nil_append, List.cons_append, List.set_cons_zero, List.set_cons_succ, iv_set, bv_set, iv_rep, bv_rep]; rfl) | rfl))) | ((with_reducible apply Step.storeA (k := 1) (n := 5)); exact rfl; exact rfl; exact rfl; exact rfl; (focus (decide +kernel)); exact rfl; (focus (kernel_rfl)); exact rfl; (focus (first | (simp only [List.nil_append, List.cons_append, List.set_cons_zero, List.set_cons_succ, iv_set, bv_set, iv_rep, bv_rep]; done) | (simp only [List.nil_append, List.cons_append, List.set_cons_zero, List.set_cons_succ, iv_set, bv_set, iv_rep, bv_rep]; rfl) | rfl)))) | (with_reducible refine AWo.nil ?_) | ((with_reducible apply AW.seq)) | ((with_reducible apply Then.n)) | ((with_reducible apply AW.regL)) | ((with_reducible apply AW.block)) | ((with_reducible apply AW.exit)) | ((with_reducible apply InBlk.hit)) | ((with_reducible apply InBlk.miss); exact rfl) | ((with_reducible apply Then.e)) | ((with_reducible apply AW.skip)) | ((with_reducible apply AW.condT); exact rfl; (focus (first | rfl | (simp only [decide_eq_true_eq, decide_eq_false_iff_not, Bool.not_eq_true', Bool.not_eq_false', Bool.not_true, Bool.not_false]; first | assumption | omega))))))
      refine AW.retT (l := [(2, gv (m.length + 0) 14)]) (L1 := [gb (kvc (K.take 14)) 5]) (L2 := [_]) rfl (by repeat (first | exact CellsOk.nil | refine CellsOk.gb (by assumption) ?_)) (by repeat (first | exact trivial | (refine And.intro ⟨rfl, by (exact Ren.of_gv (by first | (simp; done) | omega | (simp; omega)))⟩ ?_))) ?_
      exact ⟨_, rfl, by rw [List.length_take, Nat.min_eq_left (by omega)], rfl⟩
    · have hpl : (kvc (K.take i)).length = i * 5 := by rw [kvc_len, List.length_take]; congr 1; omega
      have hg0 := g0_kvc (K.take (i + 1))
      have hcc : kvc (K.take (i + 1)) = kvc (K.take i) ++ [.int .i64 kw, .int .i64 kh, .int .i64 kg, .int .i64 ko, .bool kt] := by rw [hs, kvc_snoc]; rfl
      rw [hcc] at hg0
      (repeat (first | (with_reducible refine AWo.cons ?_) | ((with_reducible refine Step.id ?_); first | ((with_reducible apply Step.move); exact rfl; exact rfl) | ((with_reducible apply Step.assign); exact rfl; exact rfl) | ((with_reducible apply Step.load); exact rfl; (focus (decide +kernel)); exact rfl; (focus (exact Rd.new rfl rfl))) | ((with_reducible apply Step.loadL (n := 5)); exact rfl; (focus (decide +kernel)); (focus (decide +kernel)); exact rfl; (focus (exact RdL.old _ (by assumption))); exact rfl; exact rfl) | ((with_reducible apply Step.ix (s := 5)); exact rfl; (focus (assumption)); exact rfl; (focus (decide +kernel)); exact rfl; (focus (omega))) | ((with_reducible apply Step.field0); exact rfl; (focus (decide +kernel)); exact rfl) | ((with_reducible apply Step.field (k := 1)); exact rfl; (focus (decide +kernel)); exact rfl) | ((with_reducible apply Step.field (k := 2)); exact rfl; (focus (decide +kernel)); exact rfl) | ((with_reducible apply Step.field (k := 3)); exact rfl; (focus (decide +kernel)); exact rfl) | ((with_reducible apply Step.field (k := 4)); exact rfl; (focus (decide +kernel)); exact rfl) | ((with_reducible apply Step.lss); exact rfl; exact rfl; exact rfl) | ((with_reducible apply Step.gtr); exact rfl; exact rfl; exact rfl) | ((with_reducible apply Step.alloc 1); exact rfl; exact ze33; exact rfl; (focus (first | (simp only [List.nil_append, List.cons_append, List.set_cons_zero, List.set_cons_succ, iv_set, bv_set, iv_rep, bv_rep]; done) | (simp only [List.nil_append, List.cons_append, List.set_cons_zero, List.set_cons_succ, iv_set, bv_set, iv_rep, bv_rep]; rfl) | rfl))) | ((with_reducible apply Step.storeA (k := 1) (n := 5)); exact rfl; exact rfl; exact rfl; exact rfl; (focus (decide +kernel)); exact rfl; (focus (kernel_rfl)); exact rfl; (focus (first | (simp only [List.nil_append, List.cons_append, List.set_cons_zero, List.set_cons_succ, iv_set, bv_set, iv_rep, bv_rep]; done) | (simp only [List.nil_append, List.cons_append, List.set_cons_zero, List.set_cons_succ, iv_set, bv_set, iv_rep, bv_rep]; rfl) | rfl))) | ((with_reducible apply Step.buildS 2); exact rfl; exact rfl; exact (fun _ _ => bs35x); exact rfl; (focus (first | (simp only [List.nil_append, List.cons_append, List.set_cons_zero, List.set_cons_succ, iv_set, bv_set, iv_rep, bv_rep]; done) | (simp only [List.nil_append, List.cons_append, List.set_cons_zero, List.set_cons_succ, iv_set, bv_set, iv_rep, bv_rep]; rfl) | rfl))) | ((with_reducible apply Step.build); exact rfl; exact bl99b; exact rfl)) | (with_reducible refine AWo.nil ?_) | ((with_reducible apply AW.seq)) | ((with_reducible apply Then.n)) | ((with_reducible apply AW.regL)) | ((with_reducible apply AW.block)) | ((with_reducible apply AW.skip)) | ((with_reducible apply AW.condT); exact rfl; (focus ((simp only [decide_eq_true_eq, decide_eq_false_iff_not, Bool.not_eq_true', Bool.not_eq_false', Bool.not_true, Bool.not_false]; first | assumption | omega)))) | ((with_reducible apply AW.condF); exact rfl; (focus ((simp only [decide_eq_true_eq, decide_eq_false_iff_not, Bool.not_eq_true', Bool.not_eq_false', Bool.not_true, Bool.not_false]; first | assumption | omega))))))
      ((with_reducible apply Step.appG (k := 3) (q := 0) (r := 2) (n := i) (xl := 1)); exact rfl; exact rfl; exact rfl; exact el35; exact un35; exact rfl; exact rfl; exact rfl; exact hpl; exact rfl; exact rfl; (focus (kernel_rfl)); (focus (omega)); exact rfl; (focus (first | (simp only [List.nil_append, List.cons_append, List.set_cons_zero, List.set_cons_succ, iv_set, bv_set, iv_rep, bv_rep]; done) | (simp only [List.nil_append, List.cons_append, List.set_cons_zero, List.set_cons_succ, iv_set, bv_set, iv_rep, bv_rep]; rfl) | rfl)))
      (repeat (first | (with_reducible refine AWo.cons ?_) | ((with_reducible refine Step.id ?_); first | ((with_reducible apply Step.move); exact rfl; exact rfl) | ((with_reducible apply Step.assign); exact rfl; exact rfl) | ((with_reducible apply Step.add); exact rfl; exact rfl; (focus (omega)); exact rfl)) | (with_reducible refine AWo.nil ?_) | ((with_reducible apply Then.n)) | ((with_reducible apply AW.regL)) | ((with_reducible apply InBlk.n))))
      exact ⟨_, [(0, .slice q K.length c), (3, .slice (some ⟨m.length + 0, 0, none⟩) (i + 1) (i + 1)), (6, .slice q K.length c), (7, .int .i64 (K.length : Nat)), (8, .int .i64 (i + 1 : Nat))], [some { cells := kvc (K.take i) ++ [.int .i64 kw, .int .i64 kh, .int .i64 kg, .int .i64 ko, .bool kt], kind := .grow, size := 5 }], by omega, (Back.mv 0 3 rfl rfl rfl rfl (by intro j b hj h; rcases j with _ | _ | _ | _ | _ | _ | j <;> simp_all) (by repeat (first | exact CellsOk.nil | refine CellsOk.cons (by assumption) ?_)) (by repeat (first | exact trivial | (refine And.intro ⟨_, rfl, by (first | exact Low.ne (by assumption) (by simp) | exact .int _ _ | exact Ren.slice_mv (by first | (simp; done) | omega | (simp; omega)))⟩ ?_)))), i + 1, rfl, by omega, by omega, by rw [hcc, gb_pos (by simp)], by rw [gv_pos (by omega)]⟩
  · obtain rfl : i = K.length := by omega
    (repeat (first | (with_reducible refine AWo.cons ?_) | ((with_reducible refine Step.id ?_); first | ((with_reducible apply Step.move); exact rfl; exact rfl) | ((with_reducible apply Step.assign); exact rfl; exact rfl) | ((with_reducible apply Step.lss); exact rfl; exact rfl; exact rfl)) | (with_reducible refine AWo.nil ?_) | ((with_reducible apply AW.seq)) | ((with_reducible apply Then.n)) | ((with_reducible apply AW.regL)) | ((with_reducible apply AW.exit)) | ((with_reducible apply InBlk.hit)) | ((with_reducible apply Then.e)) | ((with_reducible apply AW.condF); exact rfl; (focus ((simp only [decide_eq_true_eq, decide_eq_false_iff_not, Bool.not_eq_true', Bool.not_eq_false', Bool.not_true, Bool.not_false]; first | assumption | omega))))))
    (refine AW.retB (l := [(2, _)]) (Or.inl ⟨rfl, (by repeat (first | exact trivial | (refine And.intro rfl ?_)))⟩) ?_; (repeat (first | refine Then.r ?_ | refine InBlk.r ?_)))
    exact ⟨_, rfl, by rw [List.take_of_length_le hi14], by rw [List.take_of_length_le hi14, List.take_of_length_le (Nat.le_refl _)]⟩
end Go.Proofs.YtibhgdglbillaaaDoor.Abs
namespace Go.Proofs.YtibhgdglbillaaaDoor.Abs
set_option linter.unusedSimpArgs false
set_option linter.unusedVariables false
open Go.RowKit
open Go.Proofs.YtibhgdglbillaaaDoor.Sim
open Go.Proofs
set_option maxRecDepth 100000 in
theorem left_ok {m : AM} (r : R4) (i : Nat) : ACall Tryd.prog 74 #[r.rc.v, .int .i64 (i : Nat)] m (Ret (r.lo true i).rc.v m) := by
  refine ACall.drop (Ren.aggI [_, _, _, _]) ?_
  obtain ⟨x, y, a, b⟩ := r
  change ACall Tryd.prog 74 #[.agg #[.int .i64 (x : Nat), .int .i64 (y : Nat), .int .i64 (a : Nat), .int .i64 (b : Nat)], _] m fun v m' => v = .agg #[.int .i64 (x : Nat), .int .i64 (y : Nat), .int .i64 (i : Nat), .int .i64 (b : Nat)] ∧ _
  refine ACall.start Tryd.func74 rfl rfl ?_
  (repeat (first | (with_reducible refine AWo.cons ?_) | ((with_reducible refine Step.id ?_); first | ((with_reducible apply Step.move); exact rfl; exact rfl) | ((with_reducible apply Step.load); exact rfl; (focus (decide +kernel)); exact rfl; (focus (exact Rd.new rfl rfl))) | ((with_reducible apply Step.field0); exact rfl; (focus (decide +kernel)); exact rfl) | ((with_reducible apply Step.field (k := 1)); exact rfl; (focus (decide +kernel)); exact rfl) | ((with_reducible apply Step.field (k := 3)); exact rfl; (focus (decide +kernel)); exact rfl) | ((with_reducible apply Step.box 0); exact rfl; exact rfl; (focus (kernel_rfl)); exact rfl; (focus (first | (simp only [List.nil_append, List.cons_append, List.set_cons_zero, List.set_cons_succ, iv_set, bv_set, iv_rep, bv_rep]; done) | (simp only [List.nil_append, List.cons_append, List.set_cons_zero, List.set_cons_succ, iv_set, bv_set, iv_rep, bv_rep]; rfl) | rfl))) | ((with_reducible apply Step.alloc 1); exact rfl; exact ze23; exact rfl; (focus (first | (simp only [List.nil_append, List.cons_append, List.set_cons_zero, List.set_cons_succ, iv_set, bv_set, iv_rep, bv_rep]; done) | (simp only [List.nil_append, List.cons_append, List.set_cons_zero, List.set_cons_succ, iv_set, bv_set, iv_rep, bv_rep]; rfl) | rfl))) | ((with_reducible apply Step.storeA (k := 1) (n := 4)); exact rfl; exact rfl; exact rfl; exact rfl; (focus (decide +kernel)); exact rfl; (focus (kernel_rfl)); exact rfl; (focus (first | (simp only [List.nil_append, List.cons_append, List.set_cons_zero, List.set_cons_succ, iv_set, bv_set, iv_rep, bv_rep]; done) | (simp only [List.nil_append, List.cons_append, List.set_cons_zero, List.set_cons_succ, iv_set, bv_set, iv_rep, bv_rep]; rfl) | rfl))) | ((with_reducible apply Step.build); exact rfl; exact bl23; exact rfl)) | (with_reducible refine AWo.nil ?_) | ((with_reducible apply AW.seq)) | ((with_reducible apply Then.n)) | ((with_reducible apply AW.regL))))
  (refine AW.ret ?_; (repeat (first | refine Then.r ?_ | refine InBlk.r ?_)))
  exact ⟨_, ares_cell rfl rfl (by decide +kernel) (n := 4) (by decide +kernel) (RdL.new rfl rfl) rfl rfl, rfl, _, rfl⟩
set_option maxRecDepth 100000 in
theorem top_ok {m : AM} (r : R4) (i : Nat) : ACall Tryd.prog 76 #[r.rc.v, .int .i64 (i : Nat)] m (Ret (r.lo false i).rc.v m) := by
  refine ACall.drop (Ren.aggI [_, _, _, _]) ?_
  obtain ⟨x, y, a, b⟩ := r
  change ACall Tryd.prog 76 #[.agg #[.int .i64 (x : Nat), .int .i64 (y : Nat), .int .i64 (a : Nat), .int .i64 (b : Nat)], _] m fun v m' => v = .agg #[.int .i64 (x : Nat), .int .i64 (y : Nat), .int .i64 (a : Nat), .int .i64 (i : Nat)] ∧ _
  refine ACall.start Tryd.func76 rfl rfl ?_
  (repeat (first | (with_reducible refine AWo.cons ?_) | ((with_reducible refine Step.id ?_); first | ((with_reducible apply Step.move); exact rfl; exact rfl) | ((with_reducible apply Step.load); exact rfl; (focus (decide +kernel)); exact rfl; (focus (exact Rd.new rfl rfl))) | ((with_reducible apply Step.field0); exact rfl; (focus (decide +kernel)); exact rfl) | ((with_reducible apply Step.field (k := 1)); exact rfl; (focus (decide +kernel)); exact rfl) | ((with_reducible apply Step.field (k := 2)); exact rfl; (focus (decide +kernel)); exact rfl) | ((with_reducible apply Step.box 0); exact rfl; exact rfl; (focus (kernel_rfl)); exact rfl; (focus (first | (simp only [List.nil_append, List.cons_append, List.set_cons_zero, List.set_cons_succ, iv_set, bv_set, iv_rep, bv_rep]; done) | (simp only [List.nil_append, List.cons_append, List.set_cons_zero, List.set_cons_succ, iv_set, bv_set, iv_rep, bv_rep]; rfl) | rfl))) | ((with_reducible apply Step.alloc 1); exact rfl; exact ze23; exact rfl; (focus (first | (simp only [List.nil_append, List.cons_append, List.set_cons_zero, List.set_cons_succ, iv_set, bv_set, iv_rep, bv_rep]; done) | (simp only [List.nil_append, List.cons_append, List.set_cons_zero, List.set_cons_succ, iv_set, bv_set, iv_rep, bv_rep]; rfl) | rfl))) | ((with_reducible apply Step.storeA (k := 1) (n := 4)); exact rfl; exact rfl; exact rfl; exact rfl; (focus (decide +kernel)); exact rfl; (focus (kernel_rfl)); exact rfl; (focus (first | (simp only [List.nil_append, List.cons_append, List.set_cons_zero, List.set_cons_succ, iv_set, bv_set, iv_rep, bv_rep]; done) | (simp only [List.nil_append, List.cons_append, List.set_cons_zero, List.set_cons_succ, iv_set, bv_set, iv_rep, bv_rep]; rfl) | rfl))) | ((with_reducible apply Step.build); exact rfl; exact bl23; exact rfl)) | (with_reducible refine AWo.nil ?_) | ((with_reducible apply AW.seq)) | ((with_reducible apply Then.n)) | ((with_reducible apply AW.regL))))
  (refine AW.ret ?_; (repeat (first | refine Then.r ?_ | refine InBlk.r ?_)))
  exact ⟨_, ares_cell rfl rfl (by decide +kernel) (n := 4) (by decide +kernel) (RdL.new rfl rfl) rfl rfl, rfl, _, rfl⟩
set_option maxRecDepth 100000 in
theorem rightp_ok {m : AM} (r : R4) {i : Nat} (h2 : i + 1 ≤ r.len true) (hx : r.x ≤ 16 ∧ r.y ≤ 16 ∧ r.a ≤ 16 ∧ r.b ≤ 16) : ACall Tryd.prog 75 #[r.rc.v, .int .i64 (i : Nat)] m (Ret (r.hi true i).rc.v m) := by
  refine ACall.drop (Ren.aggI [_, _, _, _]) ?_
  obtain ⟨x, y, a, b⟩ := r
  change i + 1 ≤ a at h2
  simp only at hx
  change ACall Tryd.prog 75 #[.agg #[.int .i64 (x : Nat), .int .i64 (y : Nat), .int .i64 (a : Nat), .int .i64 (b : Nat)], _] m fun v m' => v = .agg #[.int .i64 ((x + i : Nat)), .int .i64 (y : Nat), .int .i64 ((a - i : Nat)), .int .i64 (b : Nat)] ∧ _
  have e1 : ((x + i : Nat) : Int) = (x : Int) + (i : Int) := by omega
  have e2 : ((a - i : Nat) : Int) = (a : Int) - (i : Int) := by omega
  rw [e1, e2]
  refine ACall.start Tryd.func75 rfl rfl ?_
  (repeat (first | (with_reducible refine AWo.cons ?_) | ((with_reducible refine Step.id ?_); first | ((with_reducible apply Step.move); exact rfl; exact rfl) | ((with_reducible apply Step.load); exact rfl; (focus (decide +kernel)); exact rfl; (focus (exact Rd.new rfl rfl))) | ((with_reducible apply Step.field0); exact rfl; (focus (decide +kernel)); exact rfl) | ((with_reducible apply Step.field (k := 1)); exact rfl; (focus (decide +kernel)); exact rfl) | ((with_reducible apply Step.field (k := 2)); exact rfl; (focus (decide +kernel)); exact rfl) | ((with_reducible apply Step.field (k := 3)); exact rfl; (focus (decide +kernel)); exact rfl) | ((with_reducible apply Step.add); exact rfl; exact rfl; (focus (omega)); exact rfl) | ((with_reducible apply Step.sub); exact rfl; exact rfl; (focus (omega)); exact rfl) | ((with_reducible apply Step.box 0); exact rfl; exact rfl; (focus (kernel_rfl)); exact rfl; (focus (first | (simp only [List.nil_append, List.cons_append, List.set_cons_zero, List.set_cons_succ, iv_set, bv_set, iv_rep, bv_rep]; done) | (simp only [List.nil_append, List.cons_append, List.set_cons_zero, List.set_cons_succ, iv_set, bv_set, iv_rep, bv_rep]; rfl) | rfl))) | ((with_reducible apply Step.alloc 1); exact rfl; exact ze23; exact rfl; (focus (first | (simp only [List.nil_append, List.cons_append, List.set_cons_zero, List.set_cons_succ, iv_set, bv_set, iv_rep, bv_rep]; done) | (simp only [List.nil_append, List.cons_append, List.set_cons_zero, List.set_cons_succ, iv_set, bv_set, iv_rep, bv_rep]; rfl) | rfl))) | ((with_reducible apply Step.storeA (k := 1) (n := 4)); exact rfl; exact rfl; exact rfl; exact rfl; (focus (decide +kernel)); exact rfl; (focus (kernel_rfl)); exact rfl; (focus (first | (simp only [List.nil_append, List.cons_append, List.set_cons_zero, List.set_cons_succ, iv_set, bv_set, iv_rep, bv_rep]; done) | (simp only [List.nil_append, List.cons_append, List.set_cons_zero, List.set_cons_succ, iv_set, bv_set, iv_rep, bv_rep]; rfl) | rfl))) | ((with_reducible apply Step.build); exact rfl; exact bl23; exact rfl)) | (with_reducible refine AWo.nil ?_) | ((with_reducible apply AW.seq)) | ((with_reducible apply Then.n)) | ((with_reducible apply AW.regL))))
  (refine AW.ret ?_; (repeat (first | refine Then.r ?_ | refine InBlk.r ?_)))
  exact ⟨_, ares_cell rfl rfl (by decide +kernel) (n := 4) (by decide +kernel) (RdL.new rfl rfl) rfl rfl, rfl, _, rfl⟩
set_option maxRecDepth 100000 in
theorem bottom_ok {m : AM} (r : R4) {i : Nat} (h2 : i + 1 ≤ r.len false) (hx : r.x ≤ 16 ∧ r.y ≤ 16 ∧ r.a ≤ 16 ∧ r.b ≤ 16) : ACall Tryd.prog 77 #[r.rc.v, .int .i64 (i : Nat)] m (Ret (r.hi false i).rc.v m) := by
  refine ACall.drop (Ren.aggI [_, _, _, _]) ?_
  obtain ⟨x, y, a, b⟩ := r
  change i + 1 ≤ b at h2
  simp only at hx
  change ACall Tryd.prog 77 #[.agg #[.int .i64 (x : Nat), .int .i64 (y : Nat), .int .i64 (a : Nat), .int .i64 (b : Nat)], _] m fun v m' => v = .agg #[.int .i64 (x : Nat), .int .i64 ((y + i : Nat)), .int .i64 (a : Nat), .int .i64 ((b - i : Nat))] ∧ _
  have e1 : ((y + i : Nat) : Int) = (y : Int) + (i : Int) := by omega
  have e2 : ((b - i : Nat) : Int) = (b : Int) - (i : Int) := by omega
  rw [e1, e2]
  refine ACall.start Tryd.func77 rfl rfl ?_
  (repeat (first | (with_reducible refine AWo.cons ?_) | ((with_reducible refine Step.id ?_); first | ((with_reducible apply Step.move); exact rfl; exact rfl) | ((with_reducible apply Step.load); exact rfl; (focus (decide +kernel)); exact rfl; (focus (exact Rd.new rfl rfl))) | ((with_reducible apply Step.field0); exact rfl; (focus (decide +kernel)); exact rfl) | ((with_reducible apply Step.field (k := 1)); exact rfl; (focus (decide +kernel)); exact rfl) | ((with_reducible apply Step.field (k := 2)); exact rfl; (focus (decide +kernel)); exact rfl) | ((with_reducible apply Step.field (k := 3)); exact rfl; (focus (decide +kernel)); exact rfl) | ((with_reducible apply Step.add); exact rfl; exact rfl; (focus (omega)); exact rfl) | ((with_reducible apply Step.sub); exact rfl; exact rfl; (focus (omega)); exact rfl) | ((with_reducible apply Step.box 0); exact rfl; exact rfl; (focus (kernel_rfl)); exact rfl; (focus (first | (simp only [List.nil_append, List.cons_append, List.set_cons_zero, List.set_cons_succ, iv_set, bv_set, iv_rep, bv_rep]; done) | (simp only [List.nil_append, List.cons_append, List.set_cons_zero, List.set_cons_succ, iv_set, bv_set, iv_rep, bv_rep]; rfl) | rfl))) | ((with_reducible apply Step.alloc 1); exact rfl; exact ze23; exact rfl; (focus (first | (simp only [List.nil_append, List.cons_append, List.set_cons_zero, List.set_cons_succ, iv_set, bv_set, iv_rep, bv_rep]; done) | (simp only [List.nil_append, List.cons_append, List.set_cons_zero, List.set_cons_succ, iv_set, bv_set, iv_rep, bv_rep]; rfl) | rfl))) | ((with_reducible apply Step.storeA (k := 1) (n := 4)); exact rfl; exact rfl; exact rfl; exact rfl; (focus (decide +kernel)); exact rfl; (focus (kernel_rfl)); exact rfl; (focus (first | (simp only [List.nil_append, List.cons_append, List.set_cons_zero, List.set_cons_succ, iv_set, bv_set, iv_rep, bv_rep]; done) | (simp only [List.nil_append, List.cons_append, List.set_cons_zero, List.set_cons_succ, iv_set, bv_set, iv_rep, bv_rep]; rfl) | rfl))) | ((with_reducible apply Step.build); exact rfl; exact bl23; exact rfl)) | (with_reducible refine AWo.nil ?_) | ((with_reducible apply AW.seq)) | ((with_reducible apply Then.n)) | ((with_reducible apply AW.regL))))
  (refine AW.ret ?_; (repeat (first | refine Then.r ?_ | refine InBlk.r ?_)))
  exact ⟨_, ares_cell rfl rfl (by decide +kernel) (n := 4) (by decide +kernel) (RdL.new rfl rfl) rfl rfl, rfl, _, rfl⟩
end Go.Proofs.YtibhgdglbillaaaDoor.Abs
namespace Go.Proofs.YtibhgdglbillaaaDoor.Abs
set_option linter.unusedSimpArgs false
set_option linter.unusedVariables false
open Go.RowKit
open Go.Proofs.YtibhgdglbillaaaDoor.Sim
open Go.Proofs
set_option maxHeartbeats 8000000 in
set_option maxRecDepth 100000 in
theorem Table_ok {m : AM} {sv kv : Value} {B : Brd} {K : List Kd} (hs : Strs m sv B) (hk : Kds m kv K) (hg : goodB B K = true) :
    ACall Tryd.prog 83 #[sv, kv] m (New (some { cells := iv (boardT B K) }) (total (bw B) (bh B)) m) := by
  have hgb : boardB B = true := by simp only [goodB, Bool.and_eq_true] at hg; exact hg.1
  have hin := good_in hgb
  have hR := fun m => RRects_ok (m := m) (bw B : Nat) (bh B : Nat)
  rw [total_rects hg] at hR
  have htl := total_le hin.2.2.2 hin.2.1
  have hb0 : 0 < B.length := hin.1
  have hpc := fun T r (hr : R4.ok (bw B) (bh B) r) => piece_ok (hs.old T) (hk.old T) hg hr
  have hV := fun r (hr : R4.ok (bw B) (bh B) r) => V_in hg hr
  have hE := bstep_each (leaf := leafM B K) hin.2.2.2 hin.2.1
  have hlf := leafM_in hg
  obtain ⟨A1, O1, sl1, la1, rd1⟩ := hs
  obtain ⟨q1, c1, rfl⟩ := sl1.shape
  have r0 := rd1 0 hb0
  obtain ⟨A2, O2, sl2, la2, _⟩ := hk
  obtain ⟨q2, c2, rfl⟩ := sl2.shape
  have w1 : Low m.length (.slice q1 B.length c1) := Low.of_sl sl1 la1
  have w2 : Low m.length (.slice q2 K.length c2) := Low.of_sl sl2 la2
  have hbT : boardT B K = fW (bstep (leafM B K) (bw B) (bh B)) (bw B) (bh B) (bw B) (List.replicate (total (bw B) (bh B)) 0) := rfl
  rw [hbT]
  refine ACall.start Tryd.func83 rfl rfl ?_
  obtain ⟨w, hw⟩ : ∃ w, bw B = w := ⟨_, rfl⟩
  obtain ⟨h, hh⟩ : ∃ h, bh B = h := ⟨_, rfl⟩
  have hw' : (rowOf B 0).size = w := hw
  have hh' : B.length = h := hh
  rw [hw, hh] at hR htl hpc hV hE hin
  rw [hw, hh]
  rw [hh'] at sl1 w1 hpc
  rw [hh']
  (repeat (first | (with_reducible refine AWo.cons ?_) | ((with_reducible refine Step.id ?_); first | ((with_reducible apply Step.move); exact rfl; exact rfl) | ((with_reducible apply Step.assign); exact rfl; exact rfl) | ((with_reducible apply Step.load); exact rfl; (focus (decide +kernel)); exact rfl; (focus (exact Rd.old _ (by assumption)))) | ((with_reducible apply Step.ix1 (k := 0)); exact rfl; (focus (assumption)); exact rfl; (focus (decide +kernel)); exact rfl; (focus (omega))) | ((with_reducible apply Step.lenS); exact rfl; exact un9; exact rfl) | ((with_reducible apply Step.len); exact rfl; (focus (assumption)); (focus (decide +kernel)); exact rfl)) | (with_reducible refine AWo.nil ?_) | ((fail_if_success (with_reducible refine AW.atR (id := 2) ?_)); ((with_reducible apply AW.seq))) | ((with_reducible apply Then.n)) | ((with_reducible apply AW.regL))))
  rw [hw']
  simp only [pairV] at hR
  (repeat (first | (with_reducible refine AWo.cons ?_) | ((with_reducible refine Step.id ?_); first | ((with_reducible apply Step.move); exact rfl; exact rfl) | ((with_reducible apply Step.assign); exact rfl; exact rfl) | ((with_reducible apply Step.extract); exact rfl; exact rfl; exact rfl) | ((with_reducible apply Step.callR fit); exact rfl; exact Tryd.func18; exact rfl; exact rfl; exact (hR _)) | ((with_reducible apply Step.make1 0); exact rfl; exact rfl; exact rfl; exact el47; (focus (omega)); exact rfl; (focus (first | (simp only [List.nil_append, List.cons_append, List.set_cons_zero, List.set_cons_succ, iv_set, bv_set, iv_rep, bv_rep]; done) | (simp only [List.nil_append, List.cons_append, List.set_cons_zero, List.set_cons_succ, iv_set, bv_set, iv_rep, bv_rep]; rfl) | rfl)))) | (with_reducible refine AWo.nil ?_) | ((with_reducible apply AW.seq)) | ((with_reducible apply Then.n)) | ((with_reducible apply AW.regL)) | ((with_reducible apply AW.block))))
  have H0 : TabI (V (leafM B K)) w h (done w h 0 0 0 0) (List.replicate (total w h) 0) := by rw [done_start]; exact TabI.zero
  refine AW.loopT (fun n t L => ∃ i : Nat, n = w - i ∧ i ≤ w ∧ L = [some { cells := iv (fW (bstep (leafM B K) w h) w h i (List.replicate (total w h) 0)) }] ∧ t = [(0, .slice q1 h c1), (1, .slice q2 K.length c2), (5, .int .i64 (w : Nat)), (6, .int .i64 (h : Nat)), (9, .slice (some ⟨m.length + 0, 0, none⟩) (total w h) (total w h)), (10, .int .i64 (i + 1 : Nat))])
    ⟨_, _, _, (Or.inl ⟨rfl, (by repeat (first | exact trivial | (refine And.intro rfl ?_)))⟩), 0, rfl, Nat.zero_le _, rfl, rfl⟩ ?_
  rintro n t L ⟨i, rfl, hi, rfl, rfl⟩
  have H1 := hE.fw H0 i hi
  rcases Nat.lt_or_ge i w with hiw | hiw
  · (repeat (first | (with_reducible refine AWo.cons ?_) | ((with_reducible refine Step.id ?_); first | ((with_reducible apply Step.move); exact rfl; exact rfl) | ((with_reducible apply Step.assign); exact rfl; exact rfl) | ((with_reducible apply Step.leq); exact rfl; exact rfl; exact rfl)) | (with_reducible refine AWo.nil ?_) | ((with_reducible apply AW.seq)) | ((with_reducible apply Then.n)) | ((with_reducible apply AW.regL)) | ((with_reducible apply AW.block)) | ((with_reducible apply AW.skip)) | ((with_reducible apply AW.condT); exact rfl; (focus ((simp only [decide_eq_true_eq, decide_eq_false_iff_not, Bool.not_eq_true', Bool.not_eq_false', Bool.not_true, Bool.not_false]; first | assumption | omega))))))
    refine AW.loopT (fun n t L => ∃ j : Nat, n = h - j ∧ j ≤ h ∧ L = [some { cells := iv (fH (bstep (leafM B K) w h) w h (i + 1) j (fW (bstep (leafM B K) w h) w h i (List.replicate (total w h) 0))) }] ∧ t = [(0, .slice q1 h c1), (1, .slice q2 K.length c2), (5, .int .i64 (w : Nat)), (6, .int .i64 (h : Nat)), (9, .slice (some ⟨m.length + 0, 0, none⟩) (total w h) (total w h)), (10, .int .i64 (i + 1 : Nat)), (11, .int .i64 (j + 1 : Nat))])
      ⟨_, _, _, (Or.inl ⟨rfl, (by repeat (first | exact trivial | (refine And.intro rfl ?_)))⟩), 0, rfl, Nat.zero_le _, rfl, rfl⟩ ?_
    rintro n t L ⟨j, rfl, hj, rfl, rfl⟩
    have H2 := hE.fh hiw H1 j hj
    rcases Nat.lt_or_ge j h with hjh | hjh
    · (repeat (first | (with_reducible refine AWo.cons ?_) | ((with_reducible refine Step.id ?_); first | ((with_reducible apply Step.move); exact rfl; exact rfl) | ((with_reducible apply Step.assign); exact rfl; exact rfl) | ((with_reducible apply Step.leq); exact rfl; exact rfl; exact rfl)) | (with_reducible refine AWo.nil ?_) | ((with_reducible apply AW.seq)) | ((with_reducible apply Then.n)) | ((with_reducible apply AW.regL)) | ((with_reducible apply AW.block)) | ((with_reducible apply AW.skip)) | ((with_reducible apply AW.condT); exact rfl; (focus ((simp only [decide_eq_true_eq, decide_eq_false_iff_not, Bool.not_eq_true', Bool.not_eq_false', Bool.not_true, Bool.not_false]; first | assumption | omega))))))
      refine AW.loopT (fun n t L => ∃ y : Nat, n = h - j - y ∧ y ≤ h - j ∧ L = [some { cells := iv (fY (bstep (leafM B K) w h) w (i + 1) (j + 1) y (fH (bstep (leafM B K) w h) w h (i + 1) j (fW (bstep (leafM B K) w h) w h i (List.replicate (total w h) 0)))) }] ∧ t = [(0, .slice q1 h c1), (1, .slice q2 K.length c2), (5, .int .i64 (w : Nat)), (6, .int .i64 (h : Nat)), (9, .slice (some ⟨m.length + 0, 0, none⟩) (total w h) (total w h)), (10, .int .i64 (i + 1 : Nat)), (11, .int .i64 (j + 1 : Nat)), (12, .int .i64 (y : Nat))])
        ⟨_, _, _, (Or.inl ⟨rfl, (by repeat (first | exact trivial | (refine And.intro rfl ?_)))⟩), 0, rfl, Nat.zero_le _, rfl, rfl⟩ ?_
      rintro n t L ⟨y, rfl, hy, rfl, rfl⟩
      have H3 := hE.fy hiw hjh H2 y hy
      have e1 : (y : Int) + ((j + 1 : Nat) : Int) = ((y + (j + 1) : Nat) : Int) := by omega
      rcases Nat.lt_or_ge y (h - j) with hyh | hyh
      · (repeat (first | (with_reducible refine AWo.cons ?_) | ((with_reducible refine Step.id ?_); first | ((with_reducible apply Step.move); exact rfl; exact rfl) | ((with_reducible apply Step.assign); exact rfl; exact rfl) | ((with_reducible apply Step.addE); exact rfl; exact rfl; (focus (assumption)); (focus (omega)); exact rfl) | ((with_reducible apply Step.leq); exact rfl; exact rfl; exact rfl)) | (with_reducible refine AWo.nil ?_) | ((with_reducible apply AW.seq)) | ((with_reducible apply Then.n)) | ((with_reducible apply AW.regL)) | ((with_reducible apply AW.block)) | ((with_reducible apply AW.skip)) | ((with_reducible apply AW.condT); exact rfl; (focus ((simp only [decide_eq_true_eq, decide_eq_false_iff_not, Bool.not_eq_true', Bool.not_eq_false', Bool.not_true, Bool.not_false]; first | assumption | omega))))))
        refine AW.loopT (fun n t L => ∃ x : Nat, n = w - i - x ∧ x ≤ w - i ∧ L = [some { cells := iv (fX (bstep (leafM B K) w h) y (i + 1) (j + 1) x (fY (bstep (leafM B K) w h) w (i + 1) (j + 1) y (fH (bstep (leafM B K) w h) w h (i + 1) j (fW (bstep (leafM B K) w h) w h i (List.replicate (total w h) 0))))) }] ∧ t = [(0, .slice q1 h c1), (1, .slice q2 K.length c2), (5, .int .i64 (w : Nat)), (6, .int .i64 (h : Nat)), (9, .slice (some ⟨m.length + 0, 0, none⟩) (total w h) (total w h)), (10, .int .i64 (i + 1 : Nat)), (11, .int .i64 (j + 1 : Nat)), (12, .int .i64 (y : Nat)), (13, .int .i64 (x : Nat))])
          ⟨_, _, _, (Or.inl ⟨rfl, (by repeat (first | exact trivial | (refine And.intro rfl ?_)))⟩), 0, rfl, Nat.zero_le _, rfl, rfl⟩ ?_
        rintro n t L ⟨x, rfl, hx, rfl, rfl⟩
        have e2 : (x : Int) + ((i + 1 : Nat) : Int) = ((x + (i + 1) : Nat) : Int) := by omega
        rcases Nat.lt_or_ge x (w - i) with hxw | hxw
        · have H4 := hE.fx hiw hjh (by omega) H3 x (by omega)
          have hr : (R4.mk x y (i + 1) (j + 1)).ok w h := step_ok hiw hjh (by omega) (by omega)
          have hst : fX (bstep (leafM B K) w h) y (i + 1) (j + 1) (x + 1) (fY (bstep (leafM B K) w h) w (i + 1) (j + 1) y (fH (bstep (leafM B K) w h) w h (i + 1) j (fW (bstep (leafM B K) w h) w h i (List.replicate (total w h) 0)))) = bstep (leafM B K) w h ⟨x, y, i + 1, j + 1⟩ (fX (bstep (leafM B K) w h) y (i + 1) (j + 1) x (fY (bstep (leafM B K) w h) w (i + 1) (j + 1) y (fH (bstep (leafM B K) w h) w h (i + 1) j (fW (bstep (leafM B K) w h) w h i (List.replicate (total w h) 0))))) := rfl
          generalize (fX (bstep (leafM B K) w h) y (i + 1) (j + 1) x (fY (bstep (leafM B K) w h) w (i + 1) (j + 1) y (fH (bstep (leafM B K) w h) w h (i + 1) j (fW (bstep (leafM B K) w h) w h i (List.replicate (total w h) 0))))) = s at *
          have hsl := H4.len
          have hF := H4.fair (fun r hd => by have := hV r hd.1; omega)
          have hp := fun T => hpc T _ hr
          have hpos := fun d => len_pos d hr
          have hle := fun d => len_le d (show w ≤ 16 by omega) (show h ≤ 16 by omega) hr
          have hlo := fun d k h1 h2 => lo_ok (d := d) (i := k) hr h1 h2
          have hhi := fun d k h1 h2 => hi_ok (d := d) (i := k) hr h1 h2
          have hat := fun (r' : R4) (h' : r'.ok w h) => at_lt (show w ≤ 16 by omega) (show h ≤ 16 by omega) h'
          rw [← hsl] at hat
          have hN := fun M (r' : R4) (h' : r'.ok w h) => place_ok' (m := M) (show w ≤ 16 by omega) (show h ≤ 16 by omega) h'
          have p1 := fun M k => left_ok (m := M) ⟨x, y, i + 1, j + 1⟩ k
          have p2 := fun M k hh => rightp_ok (m := M) ⟨x, y, i + 1, j + 1⟩ (i := k) hh (by simp only; omega)
          have p3 := fun M k => top_ok (m := M) ⟨x, y, i + 1, j + 1⟩ k
          have p4 := fun M k hh => bottom_ok (m := M) ⟨x, y, i + 1, j + 1⟩ (i := k) hh (by simp only; omega)
          have hbs : bstep (leafM B K) w h ⟨x, y, i + 1, j + 1⟩ s = s.set ((R4.mk x y (i + 1) (j + 1)).at w h) (max (max (leafM B K ⟨x, y, i + 1, j + 1⟩) (cutM (tg w h s) ⟨x, y, i + 1, j + 1⟩ true)) (cutM (tg w h s) ⟨x, y, i + 1, j + 1⟩ false)) := rfl
          have hleaf := hlf ⟨x, y, i + 1, j + 1⟩
          have hcn := fun d => mxc_nonneg (fun k => tg w h s ((R4.mk x y (i + 1) (j + 1)).lo d k) + tg w h s ((R4.mk x y (i + 1) (j + 1)).hi d k)) ((R4.mk x y (i + 1) (j + 1)).len d - 1)
          change ∀ d, 0 ≤ cutM (tg w h s) (R4.mk x y (i + 1) (j + 1)) d at hcn
          have hg0 : ∀ v ∈ (R4.mk x y (i + 1) (j + 1)).rc.cells, g0 v = true := fun v hv => by
            simp [Rc.cells] at hv
            rcases hv with rfl | rfl | rfl | rfl <;> rfl
          have hatr := hat _ hr
          have hNr := fun M => hN M _ hr
          have hlentrue : (R4.mk x y (i + 1) (j + 1)).len true = i + 1 := rfl
          have hlenfalse : (R4.mk x y (i + 1) (j + 1)).len false = j + 1 := rfl
          have r9 : ∀ b0 (T : AM), RdL (m ++ (b0 :: some { cells := (R4.mk x y (i + 1) (j + 1)).rc.cells } :: T)) (m.length + 1) 0 (R4.mk x y (i + 1) (j + 1)).rc.cells := fun b0 T => RdL.new rfl rfl
          change ∀ T, ACall Tryd.prog 78 #[_, _, .agg (R4.mk x y (i + 1) (j + 1)).rc.cells.toArray] _ _ at hp
          change ∀ M (r' : R4), _ → ACall Tryd.prog 64 #[_, _, .agg r'.rc.cells.toArray] _ _ at hN
          change ∀ M, ACall Tryd.prog 64 #[_, _, .agg (R4.mk x y (i + 1) (j + 1)).rc.cells.toArray] _ _ at hNr
          change ∀ M k, ACall Tryd.prog 74 #[.agg (R4.mk x y (i + 1) (j + 1)).rc.cells.toArray, _] _ (Ret (.agg ((R4.mk x y (i + 1) (j + 1)).lo true k).rc.cells.toArray) _) at p1
          change ∀ M k, _ → ACall Tryd.prog 75 #[.agg (R4.mk x y (i + 1) (j + 1)).rc.cells.toArray, _] _ (Ret (.agg ((R4.mk x y (i + 1) (j + 1)).hi true k).rc.cells.toArray) _) at p2
          change ∀ M k, ACall Tryd.prog 76 #[.agg (R4.mk x y (i + 1) (j + 1)).rc.cells.toArray, _] _ (Ret (.agg ((R4.mk x y (i + 1) (j + 1)).lo false k).rc.cells.toArray) _) at p3
          change ∀ M k, _ → ACall Tryd.prog 77 #[.agg (R4.mk x y (i + 1) (j + 1)).rc.cells.toArray, _] _ (Ret (.agg ((R4.mk x y (i + 1) (j + 1)).hi false k).rc.cells.toArray) _) at p4
          (repeat (first | (with_reducible refine AWo.cons ?_) | ((with_reducible refine Step.id ?_); first | ((with_reducible apply Step.move); exact rfl; exact rfl) | ((with_reducible apply Step.addE); exact rfl; exact rfl; (focus (assumption)); (focus (omega)); exact rfl) | ((with_reducible apply Step.leq); exact rfl; exact rfl; exact rfl) | ((with_reducible apply Step.alloc 1); exact rfl; exact ze23; exact rfl; (focus (first | (simp only [List.nil_append, List.cons_append, List.set_cons_zero, List.set_cons_succ, iv_set, bv_set, iv_rep, bv_rep]; done) | (simp only [List.nil_append, List.cons_append, List.set_cons_zero, List.set_cons_succ, iv_set, bv_set, iv_rep, bv_rep]; rfl) | rfl))) | ((with_reducible apply Step.storeA (k := 1) (n := 4)); exact rfl; exact rfl; exact rfl; exact rfl; (focus (decide +kernel)); exact rfl; (focus (kernel_rfl)); exact rfl; (focus (first | (simp only [List.nil_append, List.cons_append, List.set_cons_zero, List.set_cons_succ, iv_set, bv_set, iv_rep, bv_rep]; done) | (simp only [List.nil_append, List.cons_append, List.set_cons_zero, List.set_cons_succ, iv_set, bv_set, iv_rep, bv_rep]; rfl) | rfl))) | ((with_reducible apply Step.build); exact rfl; exact bl23; exact rfl)) | (with_reducible refine AWo.nil ?_) | ((fail_if_success (with_reducible refine AW.atR (id := 17) ?_)); ((with_reducible apply AW.seq))) | ((with_reducible apply Then.n)) | ((with_reducible apply AW.regL)) | ((with_reducible apply AW.block)) | ((with_reducible apply AW.skip)) | ((with_reducible apply AW.condT); exact rfl; (focus ((simp only [decide_eq_true_eq, decide_eq_false_iff_not, Bool.not_eq_true', Bool.not_eq_false', Bool.not_true, Bool.not_false]; first | assumption | omega))))))
          change AW _ _ _ _ _ (m ++ [some { cells := iv s }, some { cells := (R4.mk x y (i + 1) (j + 1)).rc.cells }]) _
          generalize R4.mk x y (i + 1) (j + 1) = r at *
          generalize hlfe : leafM B K r = lf at *
          (repeat (first | (with_reducible refine AWo.cons ?_) | ((with_reducible refine Step.id ?_); first | ((with_reducible apply Step.move); exact rfl; exact rfl) | ((with_reducible apply Step.assign); exact rfl; exact rfl) | ((with_reducible apply Step.loadL (n := 4)); exact rfl; (focus (decide +kernel)); (focus (decide +kernel)); exact rfl; (focus (exact RdL.new rfl rfl)); exact rfl; exact rfl) | ((with_reducible apply Step.extract); exact rfl; exact rfl; exact rfl) | ((with_reducible apply Step.callR fit); exact rfl; exact Tryd.func78; exact rfl; exact rfl; exact (hp _))) | (with_reducible refine AWo.nil ?_) | ((with_reducible apply AW.seq)) | ((with_reducible apply Then.n)) | ((with_reducible apply AW.regL)) | ((with_reducible apply AW.block))))
          refine AW.loopT (fun n t L => ∃ k : Nat, n = (i + 1) - k ∧ k + 1 ≤ (i + 1) ∧ L = [some { cells := iv s }, some { cells := r.rc.cells }] ∧ t = [(0, .slice q1 h c1), (1, .slice q2 K.length c2), (5, .int .i64 (w : Nat)), (6, .int .i64 (h : Nat)), (9, .slice (some ⟨m.length + 0, 0, none⟩) (total w h) (total w h)), (10, .int .i64 (i + 1 : Nat)), (11, .int .i64 (j + 1 : Nat)), (12, .int .i64 (y : Nat)), (13, .int .i64 (x : Nat)), (14, .pointer (some ⟨m.length + 1, 0, none⟩)), (15, .int .i64 (max lf (mxc (fun i => tg w h s (r.lo true i) + tg w h s (r.hi true i)) k))), (17, .int .i64 (k + 1 : Nat))])
            ⟨_, [(0, .slice q1 h c1), (1, .slice q2 K.length c2), (5, .int .i64 (w : Nat)), (6, .int .i64 (h : Nat)), (9, .slice (some ⟨m.length + 0, 0, none⟩) (total w h) (total w h)), (10, .int .i64 (i + 1 : Nat)), (11, .int .i64 (j + 1 : Nat)), (12, .int .i64 (y : Nat)), (13, .int .i64 (x : Nat)), (14, .pointer (some ⟨m.length + 1, 0, none⟩)), (15, .int .i64 lf), (17, .int .i64 1)], _, (Or.inl ⟨rfl, (by repeat (first | exact trivial | (refine And.intro rfl ?_)))⟩), 0, rfl, by omega, rfl, by rw [show max lf (mxc (fun i => tg w h s (r.lo true i) + tg w h s (r.hi true i)) 0) = lf from by simp only [mxc]; omega]; rfl⟩ ?_
          rintro n t L ⟨k, rfl, hk1, rfl, rfl⟩
          rcases Nat.lt_or_ge (k + 1) (i + 1) with hkl | hkl
          · have o1 := hlo true (k + 1) (by omega) (by omega)
            have o2 := hhi true (k + 1) (by omega) (by omega)
            have y1 := hat _ o1
            have y2 := hat _ o2
            have n1 := fun M => hN M _ o1
            have n2 := fun M => hN M _ o2
            have f1 := hF ((r.lo true (k + 1)).at w h)
            have f2 := hF ((r.hi true (k + 1)).at w h)
            have hP1 := fun M => p1 M (k + 1)
            have hP2 := fun M => p2 M (k + 1) (by omega)
            have d1 : ∀ T : AM, Rd (m ++ (some { cells := iv s } :: T)) (m.length + 0) ((r.lo true (k + 1)).at w h) (.int .i64 (s.getD ((r.lo true (k + 1)).at w h) 0)) := fun T => Rd.new rfl (iv_get y1)
            have d2 : ∀ T : AM, Rd (m ++ (some { cells := iv s } :: T)) (m.length + 0) ((r.hi true (k + 1)).at w h) (.int .i64 (s.getD ((r.hi true (k + 1)).at w h) 0)) := fun T => Rd.new rfl (iv_get y2)
            have hmx : mxc (fun i => tg w h s (r.lo true i) + tg w h s (r.hi true i)) (k + 1) = max (mxc (fun i => tg w h s (r.lo true i) + tg w h s (r.hi true i)) k) (s.getD ((r.lo true (k + 1)).at w h) 0 + s.getD ((r.hi true (k + 1)).at w h) 0) := rfl
            rw [hsl] at y1 y2
            generalize mxc (fun i => tg w h s (r.lo true i) + tg w h s (r.hi true i)) k = X at *
            generalize (r.lo true (k + 1)).at w h = s1 at *
            generalize (r.hi true (k + 1)).at w h = s2 at *
            generalize (r.lo true (k + 1)).rc = g1 at *
            generalize (r.hi true (k + 1)).rc = g2 at *
            (repeat (first | (with_reducible refine AWo.cons ?_) | ((with_reducible refine Step.id ?_); first | ((with_reducible apply Step.move); exact rfl; exact rfl) | ((with_reducible apply Step.lss); exact rfl; exact rfl; exact rfl)) | (with_reducible refine AWo.nil ?_) | ((with_reducible apply AW.seq)) | ((with_reducible apply Then.n)) | ((fail_if_success (with_reducible refine AW.atL (id := 21) ?_)); ((with_reducible apply AW.regL))) | ((with_reducible apply AW.block)) | ((with_reducible apply AW.skip)) | ((with_reducible apply AW.condT); exact rfl; (focus ((simp only [decide_eq_true_eq, decide_eq_false_iff_not, Bool.not_eq_true', Bool.not_eq_false', Bool.not_true, Bool.not_false]; first | assumption | omega))))))
            refine AW.flat fit [(0, .slice q1 h c1), (1, .slice q2 K.length c2), (5, .int .i64 (w : Nat)), (6, .int .i64 (h : Nat)), (9, .slice (some ⟨m.length + 0, 0, none⟩) (total w h) (total w h)), (10, .int .i64 (i + 1 : Nat)), (11, .int .i64 (j + 1 : Nat)), (12, .int .i64 (y : Nat)), (13, .int .i64 (x : Nat)), (14, .pointer (some ⟨m.length + 1, 0, none⟩)), (15, .int .i64 (max lf X)), (17, .int .i64 (k + 1 : Nat))] [(0, .slice q1 h c1), (1, .slice q2 K.length c2), (5, .int .i64 (w : Nat)), (6, .int .i64 (h : Nat)), (9, .slice (some ⟨m.length + 0, 0, none⟩) (total w h) (total w h)), (10, .int .i64 (i + 1 : Nat)), (11, .int .i64 (j + 1 : Nat)), (12, .int .i64 (y : Nat)), (13, .int .i64 (x : Nat)), (14, .pointer (some ⟨m.length + 1, 0, none⟩)), (15, .int .i64 (max (max lf X) (s.getD s1 0 + s.getD s2 0))), (17, .int .i64 (k + 1 : Nat))] [0, 1, 5, 6, 9, 10, 11, 12, 13, 14, 15, 17] [[], [], [], [], [], [], [1, 0], [4, 3, 0, 0], [6, 0], [0], [], [], [], [], [], [1, 0, 7], [4, 3, 0, 0], [6, 0], [0], [9, 0], [19, 0], [0, 4, 20, 19, 18, 17, 16, 15, 14, 13, 12, 11, 10, 9, 8, 7, 6, 5, 4, 3, 2, 1, 0]] (by repeat (first | exact trivial | (refine And.intro rfl ?_))) rfl (by decide +kernel) ?_ ?_
            · (repeat (first | ((with_reducible refine Step.id ?_); first | ((with_reducible apply Step.move); exact rfl; exact rfl) | ((with_reducible apply Step.assign); exact rfl; exact rfl) | ((with_reducible apply Step.load); exact rfl; (focus (decide +kernel)); exact rfl; (focus (first | exact d1 _ | exact d2 _))) | ((with_reducible apply Step.loadL (n := 4)); exact rfl; (focus (decide +kernel)); (focus (decide +kernel)); exact rfl; (focus (exact RdL.new rfl rfl)); exact rfl; exact rfl) | ((with_reducible apply Step.ix1z); exact rfl; (focus (exact Sl.mk (by omega))); exact rfl; (focus (decide +kernel)); exact rfl; (focus (omega))) | ((with_reducible apply Step.add); exact rfl; exact rfl; (focus (omega)); exact rfl) | ((with_reducible apply Step.max); exact rfl; exact rfl; exact rfl) | ((with_reducible apply Step.callR fit); exact rfl; exact Tryd.func74; exact rfl; exact rfl; exact (hP1 _)) | ((with_reducible apply Step.callR fit); exact rfl; exact Tryd.func75; exact rfl; exact rfl; exact (hP2 _)) | ((with_reducible apply Step.callR fit); exact rfl; exact Tryd.func64; exact rfl; exact rfl; exact (n1 _)) | ((with_reducible apply Step.callR fit); exact rfl; exact Tryd.func64; exact rfl; exact rfl; exact (n2 _))) | (apply AWf.cons; exact rfl) | exact ⟨put_same _ _ _, rfl⟩ | ((with_reducible apply AWf.nil))))
              exact (by repeat (first | exact trivial | (refine And.intro rfl ?_)))
            intro t2 ht2
            refine InBlk.n ?_
            refine Then.n ?_
            refine AW.weak ht2 ?_
            (repeat (first | (with_reducible refine AWo.cons ?_) | ((with_reducible refine Step.id ?_); first | ((with_reducible apply Step.move); exact rfl; exact rfl) | ((with_reducible apply Step.assign); exact rfl; exact rfl) | ((with_reducible apply Step.add); exact rfl; exact rfl; (focus (omega)); exact rfl)) | (with_reducible refine AWo.nil ?_) | ((with_reducible apply Then.n)) | ((with_reducible apply AW.regL))))
            exact ⟨_, [(0, .slice q1 h c1), (1, .slice q2 K.length c2), (5, .int .i64 (w : Nat)), (6, .int .i64 (h : Nat)), (9, .slice (some ⟨m.length + 0, 0, none⟩) (total w h) (total w h)), (10, .int .i64 (i + 1 : Nat)), (11, .int .i64 (j + 1 : Nat)), (12, .int .i64 (y : Nat)), (13, .int .i64 (x : Nat)), (14, .pointer (some ⟨m.length + 1, 0, none⟩)), (15, .int .i64 (max (max lf X) (s.getD s1 0 + s.getD s2 0))), (17, .int .i64 (k + 1 + 1 : Nat))], _, by omega, (Or.inl ⟨rfl, (by repeat (first | exact trivial | (refine And.intro rfl ?_)))⟩), k + 1, rfl, by omega, rfl, by rw [hmx, ← Int.max_assoc]⟩
          have hktrue : k = (i + 1) - 1 := by omega
          rw [hktrue]
          have hcuttrue : mxc (fun i => tg w h s (r.lo true i) + tg w h s (r.hi true i)) ((i + 1) - 1) = cutM (tg w h s) r true := by unfold cutM; rw [hlentrue]
          rw [hcuttrue]
          clear hkl hk1 hktrue
          generalize cutM (tg w h s) r true = ca at *
          (repeat (first | (with_reducible refine AWo.cons ?_) | ((with_reducible refine Step.id ?_); first | ((with_reducible apply Step.move); exact rfl; exact rfl) | ((with_reducible apply Step.assign); exact rfl; exact rfl) | ((with_reducible apply Step.lss); exact rfl; exact rfl; exact rfl)) | (with_reducible refine AWo.nil ?_) | ((with_reducible apply AW.seq)) | ((with_reducible apply Then.n)) | ((with_reducible apply AW.regL)) | ((with_reducible apply AW.block)) | ((with_reducible apply AW.exit)) | ((with_reducible apply InBlk.hit)) | ((with_reducible apply Then.e)) | ((with_reducible apply AW.condF); exact rfl; (focus ((simp only [decide_eq_true_eq, decide_eq_false_iff_not, Bool.not_eq_true', Bool.not_eq_false', Bool.not_true, Bool.not_false]; first | assumption | omega))))))
          refine AW.loopT (fun n t L => ∃ k : Nat, n = (j + 1) - k ∧ k + 1 ≤ (j + 1) ∧ L = [some { cells := iv s }, some { cells := r.rc.cells }] ∧ t = [(0, .slice q1 h c1), (1, .slice q2 K.length c2), (5, .int .i64 (w : Nat)), (6, .int .i64 (h : Nat)), (9, .slice (some ⟨m.length + 0, 0, none⟩) (total w h) (total w h)), (10, .int .i64 (i + 1 : Nat)), (11, .int .i64 (j + 1 : Nat)), (12, .int .i64 (y : Nat)), (13, .int .i64 (x : Nat)), (14, .pointer (some ⟨m.length + 1, 0, none⟩)), (15, .int .i64 (max (max lf ca) (mxc (fun i => tg w h s (r.lo false i) + tg w h s (r.hi false i)) k))), (18, .int .i64 (k + 1 : Nat))])
            ⟨_, [(0, .slice q1 h c1), (1, .slice q2 K.length c2), (5, .int .i64 (w : Nat)), (6, .int .i64 (h : Nat)), (9, .slice (some ⟨m.length + 0, 0, none⟩) (total w h) (total w h)), (10, .int .i64 (i + 1 : Nat)), (11, .int .i64 (j + 1 : Nat)), (12, .int .i64 (y : Nat)), (13, .int .i64 (x : Nat)), (14, .pointer (some ⟨m.length + 1, 0, none⟩)), (15, .int .i64 (max lf ca)), (18, .int .i64 1)], _, (Or.inl ⟨rfl, (by repeat (first | exact trivial | (refine And.intro rfl ?_)))⟩), 0, rfl, by omega, rfl, by rw [show max (max lf ca) (mxc (fun i => tg w h s (r.lo false i) + tg w h s (r.hi false i)) 0) = (max lf ca) from by simp only [mxc]; omega]; rfl⟩ ?_
          rintro n t L ⟨k, rfl, hk1, rfl, rfl⟩
          rcases Nat.lt_or_ge (k + 1) (j + 1) with hkl | hkl
          · have o1 := hlo false (k + 1) (by omega) (by omega)
            have o2 := hhi false (k + 1) (by omega) (by omega)
            have y1 := hat _ o1
            have y2 := hat _ o2
            have n1 := fun M => hN M _ o1
            have n2 := fun M => hN M _ o2
            have f1 := hF ((r.lo false (k + 1)).at w h)
            have f2 := hF ((r.hi false (k + 1)).at w h)
            have hP1 := fun M => p3 M (k + 1)
            have hP2 := fun M => p4 M (k + 1) (by omega)
            have d1 : ∀ T : AM, Rd (m ++ (some { cells := iv s } :: T)) (m.length + 0) ((r.lo false (k + 1)).at w h) (.int .i64 (s.getD ((r.lo false (k + 1)).at w h) 0)) := fun T => Rd.new rfl (iv_get y1)
            have d2 : ∀ T : AM, Rd (m ++ (some { cells := iv s } :: T)) (m.length + 0) ((r.hi false (k + 1)).at w h) (.int .i64 (s.getD ((r.hi false (k + 1)).at w h) 0)) := fun T => Rd.new rfl (iv_get y2)
            have hmx : mxc (fun i => tg w h s (r.lo false i) + tg w h s (r.hi false i)) (k + 1) = max (mxc (fun i => tg w h s (r.lo false i) + tg w h s (r.hi false i)) k) (s.getD ((r.lo false (k + 1)).at w h) 0 + s.getD ((r.hi false (k + 1)).at w h) 0) := rfl
            rw [hsl] at y1 y2
            generalize mxc (fun i => tg w h s (r.lo false i) + tg w h s (r.hi false i)) k = X at *
            generalize (r.lo false (k + 1)).at w h = s1 at *
            generalize (r.hi false (k + 1)).at w h = s2 at *
            generalize (r.lo false (k + 1)).rc = g1 at *
            generalize (r.hi false (k + 1)).rc = g2 at *
            (repeat (first | (with_reducible refine AWo.cons ?_) | ((with_reducible refine Step.id ?_); first | ((with_reducible apply Step.move); exact rfl; exact rfl) | ((with_reducible apply Step.lss); exact rfl; exact rfl; exact rfl)) | (with_reducible refine AWo.nil ?_) | ((with_reducible apply AW.seq)) | ((with_reducible apply Then.n)) | ((fail_if_success (with_reducible refine AW.atL (id := 25) ?_)); ((with_reducible apply AW.regL))) | ((with_reducible apply AW.block)) | ((with_reducible apply AW.skip)) | ((with_reducible apply AW.condT); exact rfl; (focus ((simp only [decide_eq_true_eq, decide_eq_false_iff_not, Bool.not_eq_true', Bool.not_eq_false', Bool.not_true, Bool.not_false]; first | assumption | omega))))))
            refine AW.flat fit [(0, .slice q1 h c1), (1, .slice q2 K.length c2), (5, .int .i64 (w : Nat)), (6, .int .i64 (h : Nat)), (9, .slice (some ⟨m.length + 0, 0, none⟩) (total w h) (total w h)), (10, .int .i64 (i + 1 : Nat)), (11, .int .i64 (j + 1 : Nat)), (12, .int .i64 (y : Nat)), (13, .int .i64 (x : Nat)), (14, .pointer (some ⟨m.length + 1, 0, none⟩)), (15, .int .i64 (max (max lf ca) X)), (18, .int .i64 (k + 1 : Nat))] [(0, .slice q1 h c1), (1, .slice q2 K.length c2), (5, .int .i64 (w : Nat)), (6, .int .i64 (h : Nat)), (9, .slice (some ⟨m.length + 0, 0, none⟩) (total w h) (total w h)), (10, .int .i64 (i + 1 : Nat)), (11, .int .i64 (j + 1 : Nat)), (12, .int .i64 (y : Nat)), (13, .int .i64 (x : Nat)), (14, .pointer (some ⟨m.length + 1, 0, none⟩)), (15, .int .i64 (max (max (max lf ca) X) (s.getD s1 0 + s.getD s2 0))), (18, .int .i64 (k + 1 : Nat))] [0, 1, 5, 6, 9, 10, 11, 12, 13, 14, 15, 18] [[], [], [], [], [], [], [1, 0], [4, 3, 0, 0], [6, 0], [0], [], [], [], [], [], [1, 0, 7], [4, 3, 0, 0], [6, 0], [0], [9, 0], [19, 0], [0, 4, 20, 19, 18, 17, 16, 15, 14, 13, 12, 11, 10, 9, 8, 7, 6, 5, 4, 3, 2, 1, 0]] (by repeat (first | exact trivial | (refine And.intro rfl ?_))) rfl (by decide +kernel) ?_ ?_
            · (repeat (first | ((with_reducible refine Step.id ?_); first | ((with_reducible apply Step.move); exact rfl; exact rfl) | ((with_reducible apply Step.assign); exact rfl; exact rfl) | ((with_reducible apply Step.load); exact rfl; (focus (decide +kernel)); exact rfl; (focus (first | exact d1 _ | exact d2 _))) | ((with_reducible apply Step.loadL (n := 4)); exact rfl; (focus (decide +kernel)); (focus (decide +kernel)); exact rfl; (focus (exact RdL.new rfl rfl)); exact rfl; exact rfl) | ((with_reducible apply Step.ix1z); exact rfl; (focus (exact Sl.mk (by omega))); exact rfl; (focus (decide +kernel)); exact rfl; (focus (omega))) | ((with_reducible apply Step.add); exact rfl; exact rfl; (focus (omega)); exact rfl) | ((with_reducible apply Step.max); exact rfl; exact rfl; exact rfl) | ((with_reducible apply Step.callR fit); exact rfl; exact Tryd.func76; exact rfl; exact rfl; exact (hP1 _)) | ((with_reducible apply Step.callR fit); exact rfl; exact Tryd.func77; exact rfl; exact rfl; exact (hP2 _)) | ((with_reducible apply Step.callR fit); exact rfl; exact Tryd.func64; exact rfl; exact rfl; exact (n1 _)) | ((with_reducible apply Step.callR fit); exact rfl; exact Tryd.func64; exact rfl; exact rfl; exact (n2 _))) | (apply AWf.cons; exact rfl) | exact ⟨put_same _ _ _, rfl⟩ | ((with_reducible apply AWf.nil))))
              exact (by repeat (first | exact trivial | (refine And.intro rfl ?_)))
            intro t2 ht2
            refine InBlk.n ?_
            refine Then.n ?_
            refine AW.weak ht2 ?_
            (repeat (first | (with_reducible refine AWo.cons ?_) | ((with_reducible refine Step.id ?_); first | ((with_reducible apply Step.move); exact rfl; exact rfl) | ((with_reducible apply Step.assign); exact rfl; exact rfl) | ((with_reducible apply Step.add); exact rfl; exact rfl; (focus (omega)); exact rfl)) | (with_reducible refine AWo.nil ?_) | ((with_reducible apply Then.n)) | ((with_reducible apply AW.regL))))
            exact ⟨_, [(0, .slice q1 h c1), (1, .slice q2 K.length c2), (5, .int .i64 (w : Nat)), (6, .int .i64 (h : Nat)), (9, .slice (some ⟨m.length + 0, 0, none⟩) (total w h) (total w h)), (10, .int .i64 (i + 1 : Nat)), (11, .int .i64 (j + 1 : Nat)), (12, .int .i64 (y : Nat)), (13, .int .i64 (x : Nat)), (14, .pointer (some ⟨m.length + 1, 0, none⟩)), (15, .int .i64 (max (max (max lf ca) X) (s.getD s1 0 + s.getD s2 0))), (18, .int .i64 (k + 1 + 1 : Nat))], _, by omega, (Or.inl ⟨rfl, (by repeat (first | exact trivial | (refine And.intro rfl ?_)))⟩), k + 1, rfl, by omega, rfl, by rw [hmx, ← Int.max_assoc]⟩
          have hkfalse : k = (j + 1) - 1 := by omega
          rw [hkfalse]
          have hcutfalse : mxc (fun i => tg w h s (r.lo false i) + tg w h s (r.hi false i)) ((j + 1) - 1) = cutM (tg w h s) r false := by unfold cutM; rw [hlenfalse]
          rw [hcutfalse]
          clear hkl hk1 hkfalse
          (repeat (first | (with_reducible refine AWo.cons ?_) | ((with_reducible refine Step.id ?_); first | ((with_reducible apply Step.move); exact rfl; exact rfl) | ((with_reducible apply Step.assign); exact rfl; exact rfl) | ((with_reducible apply Step.loadL (n := 4)); exact rfl; (focus (decide +kernel)); (focus (decide +kernel)); exact rfl; (focus (exact RdL.new rfl rfl)); exact rfl; exact rfl) | ((with_reducible apply Step.ix1z); exact rfl; (focus (exact Sl.mk (by omega))); exact rfl; (focus (decide +kernel)); exact rfl; (focus (omega))) | ((with_reducible apply Step.add); exact rfl; exact rfl; (focus (omega)); exact rfl) | ((with_reducible apply Step.lss); exact rfl; exact rfl; exact rfl) | ((with_reducible apply Step.callR fit); exact rfl; exact Tryd.func64; exact rfl; exact rfl; exact (hNr _)) | ((with_reducible apply Step.store (k := 0)); exact rfl; exact rfl; exact rfl; exact rfl; (focus (decide +kernel)); exact rfl; exact rfl; (focus (first | omega | (simp [iv, bv]; done) | (simp [iv, bv]; omega))); (focus (first | (simp only [List.nil_append, List.cons_append, List.set_cons_zero, List.set_cons_succ, iv_set, bv_set, iv_rep, bv_rep]; done) | (simp only [List.nil_append, List.cons_append, List.set_cons_zero, List.set_cons_succ, iv_set, bv_set, iv_rep, bv_rep]; rfl) | rfl)))) | (with_reducible refine AWo.nil ?_) | ((with_reducible apply AW.seq)) | ((with_reducible apply Then.n)) | ((with_reducible apply AW.regL)) | ((with_reducible apply AW.exit)) | ((with_reducible apply InBlk.n)) | ((with_reducible apply InBlk.hit)) | ((with_reducible apply Then.e)) | ((with_reducible apply AW.condF); exact rfl; (focus ((simp only [decide_eq_true_eq, decide_eq_false_iff_not, Bool.not_eq_true', Bool.not_eq_false', Bool.not_true, Bool.not_false]; first | assumption | omega))))))
          exact ⟨_, [(0, .slice q1 h c1), (1, .slice q2 K.length c2), (5, .int .i64 (w : Nat)), (6, .int .i64 (h : Nat)), (9, .slice (some ⟨m.length + 0, 0, none⟩) (total w h) (total w h)), (10, .int .i64 (i + 1 : Nat)), (11, .int .i64 (j + 1 : Nat)), (12, .int .i64 (y : Nat)), (13, .int .i64 (x + 1 : Nat))], [some { cells := iv (bstep (leafM B K) w h r s) }], by omega, by rw [hbs]; exact (Back.trim rfl rfl (by repeat (first | exact CellsOk.nil | refine CellsOk.cons (by exact g0_iv _) ?_)) (by repeat (first | exact trivial | (refine And.intro ⟨rfl, by (first | exact Low.rid (by assumption) (by simp) | exact .int _ _ | exact .slice _ _ _ _ (by first | (simp; done) | omega | (simp; omega)))⟩ ?_)))), x + 1, rfl, by omega, by rw [hst], rfl⟩
        · obtain rfl : x = w - i := by omega
          (repeat (first | (with_reducible refine AWo.cons ?_) | ((with_reducible refine Step.id ?_); first | ((with_reducible apply Step.move); exact rfl; exact rfl) | ((with_reducible apply Step.assign); exact rfl; exact rfl) | ((with_reducible apply Step.addE); exact rfl; exact rfl; (focus (assumption)); (focus (omega)); exact rfl) | ((with_reducible apply Step.add); exact rfl; exact rfl; (focus (omega)); exact rfl) | ((with_reducible apply Step.leq); exact rfl; exact rfl; exact rfl)) | (with_reducible refine AWo.nil ?_) | ((with_reducible apply AW.seq)) | ((with_reducible apply Then.n)) | ((with_reducible apply AW.regL)) | ((with_reducible apply AW.exit)) | ((with_reducible apply InBlk.n)) | ((with_reducible apply InBlk.hit)) | ((with_reducible apply Then.e)) | ((with_reducible apply AW.condF); exact rfl; (focus ((simp only [decide_eq_true_eq, decide_eq_false_iff_not, Bool.not_eq_true', Bool.not_eq_false', Bool.not_true, Bool.not_false]; first | assumption | omega))))))
          exact ⟨_, [(0, .slice q1 h c1), (1, .slice q2 K.length c2), (5, .int .i64 (w : Nat)), (6, .int .i64 (h : Nat)), (9, .slice (some ⟨m.length + 0, 0, none⟩) (total w h) (total w h)), (10, .int .i64 (i + 1 : Nat)), (11, .int .i64 (j + 1 : Nat)), (12, .int .i64 (y + 1 : Nat))], _, by omega, (Or.inl ⟨rfl, (by repeat (first | exact trivial | (refine And.intro rfl ?_)))⟩), y + 1, rfl, by omega, by rw [fY, show w + 1 - (i + 1) = w - i by omega], rfl⟩
      · obtain rfl : y = h - j := by omega
        (repeat (first | (with_reducible refine AWo.cons ?_) | ((with_reducible refine Step.id ?_); first | ((with_reducible apply Step.move); exact rfl; exact rfl) | ((with_reducible apply Step.assign); exact rfl; exact rfl) | ((with_reducible apply Step.addE); exact rfl; exact rfl; (focus (assumption)); (focus (omega)); exact rfl) | ((with_reducible apply Step.add); exact rfl; exact rfl; (focus (omega)); exact rfl) | ((with_reducible apply Step.leq); exact rfl; exact rfl; exact rfl)) | (with_reducible refine AWo.nil ?_) | ((with_reducible apply AW.seq)) | ((with_reducible apply Then.n)) | ((with_reducible apply AW.regL)) | ((with_reducible apply AW.exit)) | ((with_reducible apply InBlk.n)) | ((with_reducible apply InBlk.hit)) | ((with_reducible apply Then.e)) | ((with_reducible apply AW.condF); exact rfl; (focus ((simp only [decide_eq_true_eq, decide_eq_false_iff_not, Bool.not_eq_true', Bool.not_eq_false', Bool.not_true, Bool.not_false]; first | assumption | omega))))))
        exact ⟨_, [(0, .slice q1 h c1), (1, .slice q2 K.length c2), (5, .int .i64 (w : Nat)), (6, .int .i64 (h : Nat)), (9, .slice (some ⟨m.length + 0, 0, none⟩) (total w h) (total w h)), (10, .int .i64 (i + 1 : Nat)), (11, .int .i64 (j + 1 + 1 : Nat))], _, by omega, (Or.inl ⟨rfl, (by repeat (first | exact trivial | (refine And.intro rfl ?_)))⟩), j + 1, rfl, by omega, by rw [fH, show h + 1 - (j + 1) = h - j by omega], rfl⟩
    · obtain rfl : j = h := by omega
      (repeat (first | (with_reducible refine AWo.cons ?_) | ((with_reducible refine Step.id ?_); first | ((with_reducible apply Step.move); exact rfl; exact rfl) | ((with_reducible apply Step.assign); exact rfl; exact rfl) | ((with_reducible apply Step.add); exact rfl; exact rfl; (focus (omega)); exact rfl) | ((with_reducible apply Step.leq); exact rfl; exact rfl; exact rfl)) | (with_reducible refine AWo.nil ?_) | ((with_reducible apply AW.seq)) | ((with_reducible apply Then.n)) | ((with_reducible apply AW.regL)) | ((with_reducible apply AW.exit)) | ((with_reducible apply InBlk.n)) | ((with_reducible apply InBlk.hit)) | ((with_reducible apply Then.e)) | ((with_reducible apply AW.condF); exact rfl; (focus ((simp only [decide_eq_true_eq, decide_eq_false_iff_not, Bool.not_eq_true', Bool.not_eq_false', Bool.not_true, Bool.not_false]; first | assumption | omega))))))
      exact ⟨_, [(0, .slice q1 j c1), (1, .slice q2 K.length c2), (5, .int .i64 (w : Nat)), (6, .int .i64 (j : Nat)), (9, .slice (some ⟨m.length + 0, 0, none⟩) (total w j) (total w j)), (10, .int .i64 (i + 1 + 1 : Nat))], _, by omega, (Or.inl ⟨rfl, (by repeat (first | exact trivial | (refine And.intro rfl ?_)))⟩), i + 1, rfl, by omega, rfl, rfl⟩
  · obtain rfl : i = w := by omega
    (repeat (first | (with_reducible refine AWo.cons ?_) | ((with_reducible refine Step.id ?_); first | ((with_reducible apply Step.move); exact rfl; exact rfl) | ((with_reducible apply Step.assign); exact rfl; exact rfl) | ((with_reducible apply Step.leq); exact rfl; exact rfl; exact rfl)) | (with_reducible refine AWo.nil ?_) | ((with_reducible apply AW.seq)) | ((with_reducible apply Then.n)) | ((with_reducible apply AW.regL)) | ((with_reducible apply AW.exit)) | ((with_reducible apply InBlk.hit)) | ((with_reducible apply Then.e)) | ((with_reducible apply AW.condF); exact rfl; (focus ((simp only [decide_eq_true_eq, decide_eq_false_iff_not, Bool.not_eq_true', Bool.not_eq_false', Bool.not_true, Bool.not_false]; first | assumption | omega))))))
    (refine AW.retB (l := [(4, _)]) (Or.inl ⟨rfl, (by repeat (first | exact trivial | (refine And.intro rfl ?_)))⟩) ?_; (repeat (first | refine Then.r ?_ | refine InBlk.r ?_)))
    exact ⟨_, rfl, rfl, rfl⟩
end Go.Proofs.YtibhgdglbillaaaDoor.Abs
namespace Go.Proofs.YtibhgdglbillaaaDoor.Abs
set_option linter.unusedSimpArgs false
set_option linter.unusedVariables false
open Go.RowKit
open Go.Proofs.YtibhgdglbillaaaDoor.Sim
open Go.Proofs
section
variable (leaf : R4 → Int) (w h : Nat) (t : List Int)
end
section
variable {leaf : R4 → Int} {w h : Nat} {t : List Int}
end
/-- The memory in which block q holds some cells. -/
def MC (m : AM) (q : Nat) (c : List Value) : AM := m.set q (some { cells := c })
section
variable {m : AM} {q : Nat} {c c' : List Value}
theorem MC.len : (MC m q c).length = m.length := by simp [MC]
theorem MC.at (hq : q < m.length) : (MC m q c)[q]? = some (some { cells := c }) := by unfold MC; exact List.getElem?_set_self hq
theorem MC.ne {a : Nat} (h : a ≠ q) : (MC m q c)[a]? = m[a]? := by unfold MC; exact List.getElem?_set_ne (fun e => h e.symm)
theorem MC.set (hq : q < m.length) (T : AM) : (MC m q c ++ T).set q (some { cells := c' }) = MC m q c' ++ T := by
  unfold MC
  rw [List.set_append_left _ _ (by simpa using hq), List.set_set]
theorem MC.rd {a o : Nat} {x : Value} (h : a ≠ q) (hr : Rd m a o x) : Rd (MC m q c) a o x := by
  obtain ⟨b, h1, h2⟩ := hr
  exact ⟨b, by rw [MC.ne h]; exact h1, h2⟩
theorem MC.ints {v : Value} {l : List Int} {m1 N : AM} (hm : m = m1 ++ N) (hq1 : m1.length ≤ q) (h : Ints m1 v l) : Ints (MC m q c) v l := by
  subst hm
  obtain ⟨N', hN'⟩ := set_high (N := N) hq1 (some { cells := c })
  unfold MC
  rw [hN']
  exact h.old _
/-- A turned block of flat cells: what may be let go behind it. -/
theorem MC.cut (hq : q < m.length) (hg : ∀ x ∈ c', g0 x = true) (T X : AM) (hX : ∀ b, some b ∈ X → isMapK b.kind = false ∧ ∀ x ∈ b.cells, g0 x = true) (n j : Nat) (b : Blk) (h : (MC m q c' ++ (T ++ X))[j]? = some (some b)) :
    (j < (MC m q c ++ T).length ∧ (MC m q c ++ T)[j]? = some (some b)) ∨ (isMapK b.kind = false ∧ ∀ x ∈ b.cells, Ren rid n x x) := by
  have e : (MC m q c').length = (MC m q c).length := by rw [MC.len, MC.len]
  rcases Nat.lt_or_ge j (MC m q c').length with hj | hj
  · rw [List.getElem?_append_left hj] at h
    by_cases ej : j = q
    · subst ej
      rw [MC.at hq] at h
      simp only [Option.some.injEq] at h
      subst h
      exact .inr ⟨rfl, fun x hx => Ren.of_g0 (hg x hx)⟩
    · rw [MC.ne ej] at h
      refine .inl ⟨by rw [List.length_append]; omega, ?_⟩
      rw [List.getElem?_append_left (by omega), MC.ne ej]
      exact h
  · rw [List.getElem?_append_right hj] at h
    rcases Nat.lt_or_ge (j - (MC m q c').length) T.length with hj2 | hj2
    · rw [List.getElem?_append_left hj2] at h
      refine .inl ⟨by rw [List.length_append]; omega, ?_⟩
      rw [List.getElem?_append_right (by omega), ← e]
      exact h
    · rw [List.getElem?_append_right hj2] at h
      obtain ⟨h1, h2⟩ := hX b (List.mem_of_getElem? h)
      exact .inr ⟨h1, fun x hx => Ren.of_g0 (h2 x hx)⟩
end
end Go.Proofs.YtibhgdglbillaaaDoor.Abs
namespace Go.Proofs.YtibhgdglbillaaaDoor.Abs
set_option linter.unusedSimpArgs false
set_option linter.unusedVariables false
open Go.RowKit
open Go.Proofs.YtibhgdglbillaaaDoor.Sim
open Go.Proofs
set_option maxHeartbeats 4000000 in
set_option maxRecDepth 100000 in
theorem RBest_ok {m : AM} {sv kv : Value} {B : Brd} {K : List Kd} (hs : Strs m sv B) (hk : Kds m kv K) (hg : goodB B K = true) :
    ACall Tryd.prog 33 #[sv, kv] m (Ret (.tuple #[.int .i64 (bestM B K), .int .i64 0]) m) := by
  have hG := fun T => RGood_ok (hs.old T) (hk.old T)
  rw [hg] at hG
  have hT := fun T => Table_ok (hs.old T) (hk.old T) hg
  have hgb : boardB B = true := by simp only [goodB, Bool.and_eq_true] at hg; exact hg.1
  have hin := good_in hgb
  have hok : (wholeR B).ok (bw B) (bh B) := by simp only [R4.ok, wholeR]; omega
  have nn := fun T => place_ok' (m := T) hin.2.2.2 hin.2.1 hok
  change ∀ T, ACall Tryd.prog 64 #[_, _, .agg #[.int .i64 0, .int .i64 0, .int .i64 (bw B : Nat), .int .i64 (bh B : Nat)]] _ _ at nn
  have hat := at_lt hin.2.2.2 hin.2.1 hok
  have hlen : (boardT B K).length = total (bw B) (bh B) := (bestT_ok hin.2.2.2 hin.2.1).len
  have hb0 : 0 < B.length := hin.1
  obtain ⟨A1, O1, sl1, la1, rd1⟩ := hs
  have r0 := rd1 0 hb0
  have rt : ∀ T : AM, Rd (m ++ (some { cells := iv (boardT B K) } :: T)) (m.length + 0) ((wholeR B).at (bw B) (bh B)) (.int .i64 ((boardT B K).getD ((wholeR B).at (bw B) (bh B)) 0)) := fun T => Rd.new rfl (iv_get (by omega))
  have hbm : bestM B K = (boardT B K).getD ((wholeR B).at (bw B) (bh B)) 0 := rfl
  rw [hbm]
  generalize (wholeR B).at (bw B) (bh B) = n at *
  refine ACall.start Tryd.func33 rfl rfl ?_
  (repeat (first | (with_reducible refine AWo.cons ?_) | ((with_reducible refine Step.id ?_); first | ((with_reducible apply Step.move); exact rfl; exact rfl) | ((with_reducible apply Step.assign); exact rfl; exact rfl) | ((with_reducible apply Step.load); exact rfl; (focus (decide +kernel)); exact rfl; (focus (first | exact rt _ | exact Rd.old _ (by assumption)))) | ((with_reducible apply Step.ix1z); exact rfl; (focus (exact Sl.mk (by omega))); exact rfl; (focus (decide +kernel)); exact rfl; (focus (omega))) | ((with_reducible apply Step.ix1); exact rfl; (focus (assumption)); exact rfl; (focus (decide +kernel)); exact rfl; (focus (omega))) | ((with_reducible apply Step.lenS); exact rfl; exact un9; exact rfl) | ((with_reducible apply Step.len); exact rfl; (focus (assumption)); (focus (decide +kernel)); exact rfl) | ((with_reducible apply Step.not); exact rfl; exact rfl) | ((with_reducible apply Step.callR fit); exact rfl; exact Tryd.func24; exact rfl; exact rfl; exact (hG _)) | ((with_reducible apply Step.callN fit (k := 0)); exact rfl; exact rfl; exact Tryd.func83; exact rfl; exact rfl; exact (hT _); (focus (first | (simp only [List.nil_append, List.cons_append, List.set_cons_zero, List.set_cons_succ, iv_set, bv_set, iv_rep, bv_rep]; done) | (simp only [List.nil_append, List.cons_append, List.set_cons_zero, List.set_cons_succ, iv_set, bv_set, iv_rep, bv_rep]; rfl) | rfl))) | ((with_reducible apply Step.callR fit); exact rfl; exact Tryd.func64; exact rfl; exact rfl; exact (nn _)) | ((with_reducible apply Step.build); exact rfl; exact bl23w; exact rfl)) | (with_reducible refine AWo.nil ?_) | ((with_reducible apply AW.seq)) | ((with_reducible apply Then.n)) | ((with_reducible apply AW.regL)) | ((with_reducible apply AW.drawL fit); (focus (decide +kernel))) | ((with_reducible apply AW.skip)) | ((with_reducible apply AW.condF); exact rfl; (focus (rfl)))))
  (refine AW.retD (l := [(4, _), (5, _)]) (by repeat (first | exact trivial | (refine And.intro ⟨rfl, by (exact .int _ _)⟩ ?_))) ?_; (repeat (first | refine Then.r ?_ | refine InBlk.r ?_)))
  exact ⟨_, rfl, rfl, rfl⟩
end Go.Proofs.YtibhgdglbillaaaDoor.Abs
namespace Go.Proofs.YtibhgdglbillaaaDoor.Abs
set_option linter.unusedSimpArgs false
set_option linter.unusedVariables false
/-- The sum of f i over i below n. -/
def sm (f : Nat → Int) : Nat → Int
  | 0 => 0
  | n + 1 => sm f n + f n
/-- What lies on bench b of the jobs below n. -/
def ld (p : Nat → Int) (f : Nat → Nat) (n b : Nat) : Int := sm (fun i => if f i = b then p i else 0) n
end Go.Proofs.YtibhgdglbillaaaDoor.Abs
namespace Go.Proofs.YtibhgdglbillaaaDoor.Abs
set_option linter.unusedSimpArgs false
set_option linter.unusedVariables false
section
variable {p : Nat → Int} {F G : Nat → Nat} {k m : Nat} {n : Int}
end
section
variable {p : Nat → Int} {F G : Nat → Nat} {k m : Nat} {n : Int}
/-- The longest first, each into the first bar with room. -/
structure FFD (p : Nat → Int) (F : Nat → Nat) (k : Nat) (n : Int) : Prop where
  pos : ∀ i, i < k → 1 ≤ p i ∧ p i ≤ n
  dec : ∀ i j, i ≤ j → j < k → p j ≤ p i
  full : ∀ i, i < k → ∀ b, b < F i → n < ld p F i b + p i
  room : ∀ i, i < k → ld p F i (F i) + p i ≤ n
theorem least_ex {q : Nat → Prop} [DecidablePred q] {i : Nat} (h : q i) : ∃ e, e ≤ i ∧ q e ∧ ∀ j, j < e → ¬ q j := by
  induction i using Nat.strongRecOn with
  | _ i ih =>
    by_cases h1 : ∃ j, j < i ∧ q j
    · obtain ⟨j, hj, hq⟩ := h1
      obtain ⟨e, e1, e2, e3⟩ := ih j hj hq
      exact ⟨e, by omega, e2, e3⟩
    · exact ⟨i, Nat.le_refl _, h, fun j hj hq => h1 ⟨j, hj, hq⟩⟩
/-- Some excess item, the last of them. -/
theorem FFD.last (h : FFD p F k n) {i : Nat} (hi : i < k) (he : m ≤ F i) : ∃ e, e < k ∧ m ≤ F e ∧ ∀ j, j < k → m ≤ F j → p e ≤ p j := by
  obtain ⟨d, d1, d2, d3⟩ := least_ex (q := fun d => m ≤ F (k - 1 - d)) (i := k - 1 - i) (by rw [show k - 1 - (k - 1 - i) = i by omega]; exact he)
  refine ⟨k - 1 - d, by omega, d2, fun j hj hm => ?_⟩
  refine h.dec j (k - 1 - d) ?_ (by omega)
  rcases Nat.lt_or_ge (k - 1 - d) j with q | q
  · exfalso
    refine d3 (k - 1 - j) (by omega) ?_
    rw [show k - 1 - (k - 1 - j) = j by omega]; exact hm
  · exact q
theorem FFD.nn (h : FFD p F k n) : ∀ i, i < k → 0 ≤ p i := fun i hi => by have := h.pos i hi; omega
end
section
variable {p : Nat → Int} {G : Nat → Nat} {k m : Nat} {n t : Int}
end
end Go.Proofs.YtibhgdglbillaaaDoor.Abs
namespace Go.Proofs.YtibhgdglbillaaaDoor.Abs
set_option linter.unusedSimpArgs false
set_option linter.unusedVariables false
/-- How many bars, how much of the last one is used, which strip came last. -/
abbrev Ld := Nat × Int × Nat
section
variable {n : Int} {p : Nat → Int} {k : Nat}
def l2 (l : Ld) : Nat × Int := (l.1, l.2.1)
end
section
variable {n : Int} {p : Nat → Int} {k m : Nat} {G : Nat → Nat}
end
end Go.Proofs.YtibhgdglbillaaaDoor.Abs
namespace Go.Proofs.YtibhgdglbillaaaDoor.Abs
set_option linter.unusedSimpArgs false
set_option linter.unusedVariables false
def ms (le : Int → Int → Bool) (l : List Int) : List Int := l.mergeSort le
section
variable {le : Int → Int → Bool} {l p A B A1 A2 B1 B2 : List Int}
end
end Go.Proofs.YtibhgdglbillaaaDoor.Abs
namespace Go.Proofs.YtibhgdglbillaaaDoor.Abs
set_option linter.unusedSimpArgs false
set_option linter.unusedVariables false
def upI (n : Nat) : List Int := (List.range n).map (Nat.cast : Nat → Int)
def leL (l : List Int) (a b : Int) : Bool := decide (-(l.getD a.toNat 0) < -(l.getD b.toNat 0) ∨ -(l.getD a.toNat 0) = -(l.getD b.toNat 0) ∧ ((0 : Int) < 0 ∨ (0 : Int) = 0 ∧ a ≤ b))
theorem leL_iff {l : List Int} {a b : Int} : leL l a b = true ↔ l.getD b.toNat 0 < l.getD a.toNat 0 ∨ l.getD b.toNat 0 = l.getD a.toNat 0 ∧ a ≤ b := by
  simp only [leL, decide_eq_true_eq, Int.lt_irrefl, false_or, true_and]; omega
def ordL (l : List Int) : List Int := ms (leL l) (upI l.length)
structure Pick (l : List Int) (mt : List Bool) (i : Nat) (x : Int) : Prop where
  none : x < 0 → x = -1 ∧ ∀ j, j < i → mt.getD j false = true
  some : 0 ≤ x → x < i ∧ mt.getD x.toNat false = false ∧ ∀ j : Nat, j < i → mt.getD j false = false → leL l x j = true
theorem Pick.zero (l : List Int) (mt : List Bool) : Pick l mt 0 (-1) := ⟨fun _ => ⟨rfl, fun j hj => by omega⟩, fun h => by omega⟩
theorem Pick.take {l : List Int} {mt : List Bool} {i : Nat} {x : Int} (h : Pick l mt i x) (hm : mt.getD i false = false) (hx : x < 0 ∨ 0 ≤ x ∧ l.getD x.toNat 0 < l.getD i 0) : Pick l mt (i + 1) i :=
  ⟨fun h' => by omega, fun _ => by
    refine ⟨by omega, by rw [Int.toNat_natCast]; exact hm, fun j hj hjm => ?_⟩
    rcases Nat.lt_succ_iff_lt_or_eq.1 hj with h' | h'
    · rcases hx with hx | ⟨hx, hlt⟩
      · rw [(h.none hx).2 j h'] at hjm; cases hjm
      · have h3 := (h.some hx).2.2 j h' hjm
        rw [leL_iff] at h3 ⊢
        simp only [Int.toNat_natCast] at *
        omega
    · subst h'
      rw [leL_iff]; omega⟩
def oi (l : List Int) (k : Nat) : Nat := ((ordL l).getD k 0).toNat
end Go.Proofs.YtibhgdglbillaaaDoor.Abs
namespace Go.Proofs.YtibhgdglbillaaaDoor.Abs
set_option linter.unusedSimpArgs false
set_option linter.unusedVariables false
open Go.RowKit
open Go.Proofs.YtibhgdglbillaaaDoor.Sim
open Go.Proofs
/-- A node: what is done, at what number, turned or not. -/
abbrev Nd := Int × Int × Bool
def ndc1 (n : Nd) : List Value := [.int .i64 n.1, .int .i64 n.2.1, .bool n.2.2]
def ndc (l : List Nd) : List Value := l.flatMap ndc1
theorem ndc_len (l : List Nd) : (ndc l).length = l.length * 3 := by
  induction l with
  | nil => rfl
  | cons k l ih =>
    have : ndc (k :: l) = ndc1 k ++ ndc l := rfl
    rw [this, List.length_append, ih]
    simp [ndc1]
    omega
theorem ndc_app (a b : List Nd) : ndc (a ++ b) = ndc a ++ ndc b := by simp [ndc]
theorem ndc_get : ∀ (l : List Nd) (i : Nat), i < l.length → ∀ (j : Nat) (v : Value), (ndc1 (l.getD i (0, 0, false)))[j]? = some v → (ndc l)[i * 3 + j]? = some v
  | [], i, hi, _, _, _ => by simp at hi
  | k :: l, 0, _, j, v, hj => by
    have e : ndc (k :: l) = ndc1 k ++ ndc l := rfl
    have hj' : (ndc1 k)[j]? = some v := by simpa using hj
    have hlt := (List.getElem?_eq_some_iff.1 hj').1
    rw [e, Nat.zero_mul, Nat.zero_add, List.getElem?_append_left hlt]
    exact hj'
  | k :: l, i + 1, hi, j, v, hj => by
    have e : ndc (k :: l) = ndc1 k ++ ndc l := rfl
    have e3 : (ndc1 k).length = 3 := rfl
    rw [e, List.getElem?_append_right (by rw [e3]; omega), e3, show (i + 1) * 3 + j - 3 = i * 3 + j by omega]
    exact ndc_get l i (by simpa using hi) j v (by simpa using hj)
theorem ndc_one (l : List Nd) : (ndc l).all (·.oneCell') = true := by
  rw [List.all_eq_true]
  intro v hv
  obtain ⟨x, _, hx⟩ := List.mem_flatMap.1 hv
  simp only [ndc1, List.mem_cons, List.not_mem_nil, or_false] at hx
  rcases hx with rfl | rfl | rfl <;> rfl
theorem g0_ndc (l : List Nd) : ∀ v ∈ ndc l, g0 v = true := fun v hv => by
  obtain ⟨x, _, hx⟩ := List.mem_flatMap.1 hv
  simp only [ndc1, List.mem_cons, List.not_mem_nil, or_false] at hx
  rcases hx with rfl | rfl | rfl <;> rfl
/-- The least number below n of which q holds, else n. -/
def lq (q : Nat → Bool) (n : Nat) : Nat := (List.range n).findIdx q
theorem lq_le (q : Nat → Bool) (n : Nat) : lq q n ≤ n := by
  have := List.findIdx_le_length (p := q) (xs := List.range n)
  simpa [lq] using this
theorem lq_before {q : Nat → Bool} {n j : Nat} (h : j < lq q n) : q j = false := by
  have hj : j < (List.range n).length := by have := lq_le q n; simp; omega
  have := List.not_of_lt_findIdx (p := q) (xs := List.range n) h
  simpa using this
theorem lq_at {q : Nat → Bool} {n : Nat} (h : lq q n < n) : q (lq q n) = true := by
  have h' : (List.range n).findIdx q < (List.range n).length := by simpa [lq] using h
  have := List.findIdx_getElem (p := q) (xs := List.range n) (w := h')
  simpa [lq] using this
theorem lq_eq {q : Nat → Bool} {n k : Nat} (hk : k ≤ n) (h1 : ∀ j, j < k → q j = false) (h2 : k < n → q k = true) : lq q n = k := by
  rcases Nat.lt_trichotomy (lq q n) k with h | h | h
  · have a := lq_at (q := q) (n := n) (by omega)
    rw [h1 _ h] at a; cases a
  · exact h
  · have a := lq_before h
    have b := h2 (by have := lq_le q n; omega)
    rw [a] at b; cases b
section
variable {B : Brd} {K : List Kd}
def pkQ (B : Brd) (K : List Kd) (r : R4) (k : Nat) : Bool := okB B (K.getD k default) r && decide ((K.getD k default).worth = V (leafM B K) r)
def ctQ (B : Brd) (K : List Kd) (r : R4) (d : Bool) (i : Nat) : Bool := decide (V (leafM B K) (r.lo d (i + 1)) + V (leafM B K) (r.hi d (i + 1)) = V (leafM B K) r)
/-- The plan of the rule. -/
def plM (B : Brd) (K : List Kd) : Nat → R4 → List Nd
  | 0, _ => []
  | f + 1, r =>
    if V (leafM B K) r = 0 then [(0, 0, false)]
    else if lq (pkQ B K r) K.length < K.length then [(1, (lq (pkQ B K r) K.length : Nat), turnedB (K.getD (lq (pkQ B K r) K.length) default) r)]
    else if lq (ctQ B K r true) (r.len true - 1) < r.len true - 1 then (2, (lq (ctQ B K r true) (r.len true - 1) + 1 : Nat), false) :: (plM B K f (r.lo true (lq (ctQ B K r true) (r.len true - 1) + 1)) ++ plM B K f (r.hi true (lq (ctQ B K r true) (r.len true - 1) + 1)))
    else if lq (ctQ B K r false) (r.len false - 1) < r.len false - 1 then (3, (lq (ctQ B K r false) (r.len false - 1) + 1 : Nat), false) :: (plM B K f (r.lo false (lq (ctQ B K r false) (r.len false - 1) + 1)) ++ plM B K f (r.hi false (lq (ctQ B K r false) (r.len false - 1) + 1)))
    else []
theorem leafN_wit2 (B : Brd) (K : List Kd) (r : R4) : ∀ n, leafN B K r n = 0 ∨ ∃ k, k < n ∧ okB B (K.getD k default) r = true ∧ (K.getD k default).worth = leafN B K r n
  | 0 => .inl rfl
  | n + 1 => by
    simp only [leafN, fitsM_some]
    split
    · rename_i h
      exact .inr ⟨n, by omega, h.1, rfl⟩
    · rcases leafN_wit2 B K r n with h | ⟨k, h1, h2, h3⟩
      · exact .inl h
      · exact .inr ⟨k, by omega, h2, h3⟩
theorem leafN_ge2 (B : Brd) (K : List Kd) (r : R4) : ∀ n k, k < n → okB B (K.getD k default) r = true → (K.getD k default).worth ≤ leafN B K r n
  | 0, k, h, _ => by omega
  | n + 1, k, h, hok => by
    simp only [leafN, fitsM_some]
    rcases Nat.lt_succ_iff_lt_or_eq.1 h with h' | h'
    · have := leafN_ge2 B K r n k h' hok
      split
      · rename_i q; omega
      · exact this
    · subst h'
      split
      · omega
      · rename_i q
        have : ¬ leafN B K r k < (K.getD k default).worth := fun q' => q ⟨hok, q'⟩
        omega
/-- One of the three ways is open. -/
theorem plan_open {w h : Nat} {r : R4} (hr : r.ok w h) (h0 : ¬ V (leafM B K) r = 0) (h1 : ¬ lq (pkQ B K r) K.length < K.length) (h2 : ¬ lq (ctQ B K r true) (r.len true - 1) < r.len true - 1) : lq (ctQ B K r false) (r.len false - 1) < r.len false - 1 := by
  rcases Nat.lt_or_ge (lq (ctQ B K r false) (r.len false - 1)) (r.len false - 1) with h3 | h3
  · exact h3
  · exfalso
    have hc : ∀ d, ¬ lq (ctQ B K r d) (r.len d - 1) < r.len d - 1 → ¬ cutM (V (leafM B K)) r d = V (leafM B K) r := fun d hd e => by
      unfold cutM at e
      rcases mxc_wit (f := fun i => V (leafM B K) (r.lo d i) + V (leafM B K) (r.hi d i)) (r.len d - 1) with q | ⟨i, i1, i2, q⟩
      · omega
      · have hb := lq_before (q := ctQ B K r d) (n := r.len d - 1) (j := i - 1) (by omega)
        unfold ctQ at hb
        rw [show i - 1 + 1 = i by omega, decide_eq_false_iff_not] at hb
        have q' : mxc (fun i => V (leafM B K) (r.lo d i) + V (leafM B K) (r.hi d i)) (r.len d - 1) = V (leafM B K) (r.lo d i) + V (leafM B K) (r.hi d i) := q
        omega
    have hl : ¬ leafM B K r = V (leafM B K) r := fun e => by
      rcases leafN_wit2 B K r K.length with q | ⟨k, k1, k2, k3⟩
      · have : leafM B K r = 0 := q
        omega
      · have hb := lq_before (q := pkQ B K r) (n := K.length) (j := k) (by omega)
        unfold pkQ at hb
        rw [k2, Bool.true_and, decide_eq_false_iff_not] at hb
        have : leafM B K r = leafN B K r K.length := rfl
        omega
    have e := V_eq (leaf := leafM B K) hr
    have a1 := hc true h2
    have a2 := hc false (by omega)
    omega
/-- The reference's test of the greatest piece. -/
theorem pk_leaf {w h : Nat} {r : R4} (hr : r.ok w h) (h0 : ¬ V (leafM B K) r = 0) : lq (pkQ B K r) K.length < K.length ↔ leafM B K r = V (leafM B K) r := by
  constructor
  · intro hlt
    have hb : (okB B (K.getD (lq (pkQ B K r) K.length) default) r && decide ((K.getD (lq (pkQ B K r) K.length) default).worth = V (leafM B K) r)) = true := lq_at hlt
    rw [Bool.and_eq_true, decide_eq_true_eq] at hb
    obtain ⟨hb1, hb2⟩ := hb
    have h1 := leafN_ge2 B K r K.length _ hlt hb1
    have h2 := leaf_le_V (leaf := leafM B K) hr
    have : leafM B K r = leafN B K r K.length := rfl
    omega
  · intro e
    rcases leafN_wit2 B K r K.length with q | ⟨k, k1, k2, k3⟩
    · have : leafM B K r = 0 := q
      omega
    · rcases Nat.lt_or_ge (lq (pkQ B K r) K.length) K.length with q | q
      · exact q
      · have hb := lq_before (q := pkQ B K r) (n := K.length) (j := k) (by omega)
        unfold pkQ at hb
        rw [k2, Bool.true_and, decide_eq_false_iff_not] at hb
        have : leafM B K r = leafN B K r K.length := rfl
        omega
/-- The lowest index of a greatest piece. -/
theorem atN_eq (B : Brd) (K : List Kd) (r : R4) (v : Int) (hv : 0 < v) : ∀ n, leafN B K r n ≤ v → (leafN B K r n = v → atN B K r n = (lq (fun k => okB B (K.getD k default) r && decide ((K.getD k default).worth = v)) n : Nat)) ∧ (lq (fun k => okB B (K.getD k default) r && decide ((K.getD k default).worth = v)) n < n ↔ leafN B K r n = v)
  | 0, _ => ⟨fun h => by simp only [leafN] at h; omega, by simp [lq, leafN]; omega⟩
  | n + 1, hle => by
    have hs : ∀ q : Nat → Bool, lq q (n + 1) = if lq q n < n then lq q n else if q n then n else n + 1 := fun q => by
      have h1 := lq_le q n
      by_cases a : lq q n < n
      · rw [if_pos a]; exact lq_eq (by omega) (fun j hj => lq_before hj) fun _ => lq_at a
      · rw [if_neg a]
        have hn : ∀ j, j < n → q j = false := fun j hj => lq_before (n := n) (by omega)
        cases hq : q n with
        | true => rw [if_pos rfl]; exact lq_eq (by omega) hn fun _ => hq
        | false =>
          rw [if_neg (by decide)]
          exact lq_eq (Nat.le_refl _) (fun j hj => by
            rcases Nat.lt_succ_iff_lt_or_eq.1 hj with h' | h'
            · exact hn j h'
            · rw [h']; exact hq) fun h => by omega
    rw [hs]
    simp only [leafN, atN, fitsM_some] at hle ⊢
    by_cases c : okB B (K.getD n default) r = true ∧ leafN B K r n < (K.getD n default).worth
    · rw [if_pos c] at hle ⊢
      rw [if_pos c]
      obtain ⟨_, ih2⟩ := atN_eq B K r v hv n (by omega)
      have hno : ¬ lq (fun k => okB B (K.getD k default) r && decide ((K.getD k default).worth = v)) n < n := fun q => by have := ih2.1 q; omega
      rw [if_neg hno, c.1, Bool.true_and]
      constructor
      · intro e
        rw [decide_eq_true e, if_pos rfl]
      · by_cases e : (K.getD n default).worth = v
        · rw [decide_eq_true e, if_pos rfl]
          exact ⟨fun _ => e, fun _ => by omega⟩
        · rw [decide_eq_false e, if_neg (by decide)]
          exact ⟨fun q => by omega, fun q => absurd q e⟩
    · rw [if_neg c] at hle ⊢
      rw [if_neg c]
      obtain ⟨ih1, ih2⟩ := atN_eq B K r v hv n hle
      by_cases a : lq (fun k => okB B (K.getD k default) r && decide ((K.getD k default).worth = v)) n < n
      · rw [if_pos a]
        exact ⟨ih1, ⟨fun _ => ih2.1 a, fun _ => by omega⟩⟩
      · rw [if_neg a]
        have hlt : ¬ leafN B K r n = v := fun q => a (ih2.2 q)
        have hq : (okB B (K.getD n default) r && decide ((K.getD n default).worth = v)) = false := by
          cases hok : okB B (K.getD n default) r with
          | false => rfl
          | true =>
            rw [Bool.true_and, decide_eq_false_iff_not]
            intro e
            exact c ⟨hok, by omega⟩
        rw [hq, if_neg (by decide)]
        exact ⟨fun q => absurd q hlt, ⟨fun q => by omega, fun q => absurd q hlt⟩⟩
end
section
variable {P : Program} {nt : Nat} {ops : Array Oper} {t : Fm} {m : AM} {K : Fm → AM → Prop} {d T : Nat} {p : String} {af : Array Edge}
/-- Elements are added to a row of one's own that holds no more than its elements: a new row. -/
theorem Step.appOX {x y : Operand} {X Y e e' : TypeId} {by_ s r n xl sz k q : Nat} {z : Array Value} {c new : List Value} {kd : Kind} {M L L' : AM} (hk : L.length = k) (hx : evo t x = some (.slice (some ⟨M.length + q, 0, none⟩) n n)) (hy : evo t y = some (.slice (some ⟨r, 0, none⟩) xl xl)) (hE : elemB P X = some (e, s, by_, z)) (hY : P.underlying Y = some (.slice e'))
    (hs : Nat.blt 0 s = true) (hxl : 0 < xl) (hq : L[q]? = some (some { cells := c })) (hc : c.length = n * s) (hr : (M ++ L)[r]? = some (some { cells := new, kind := kd, size := sz })) (hn : new.length = xl * s) (hn1 : new.all (·.oneCell') = true) (hb : (n + xl) * by_ ≤ 1099511627776 ∧ n + xl ≤ 1099511627776) (hlt : Nat.blt d nt = true)
    (hL : L ++ [some { cells := c ++ new, kind := .grow, size := s }] = L') (hK : K (put t d (.slice (some ⟨M.length + k, 0, none⟩) (n + xl) (n + xl))) (M ++ L')) :
    Step P nt ops ⟨some d, .call ⟨.builtin .append, #[x, y], #[X, Y]⟩, T, p, af, none⟩ t (M ++ L) K := by
  subst hL
  have hs : 0 < s := Nat.le_of_ble_eq_true hs
  refine .l rfl rfl hlt rfl (by simp [Op.operands, Call.operands, hx, hy]) (loudN hk rfl (v := .slice (some ⟨M.length + k, 0, none⟩) (n + xl) (n + xl)) ?_ hK)
  have hrl : r < (M ++ L).length := (List.getElem?_eq_some_iff.1 hr).1
  have hql : q < L.length := (List.getElem?_eq_some_iff.1 hq).1
  have hcell : acells ((M ++ L) ++ [none]) s xl (.slice (some ⟨r, 0, none⟩) xl xl) = some new := by
    have hg : ((M ++ L) ++ [none])[r]? = some (some { cells := new, kind := kd, size := sz }) := by rw [List.getElem?_append_left hrl, hr]
    simp only [acells, hg]
    rw [if_neg (by omega), if_pos ⟨Nat.le_refl _, by simp [hn]⟩]
    simp [← hn]
  have hg : ((M ++ L) ++ [none])[M.length + q]? = some (some { cells := c }) := by rw [List.append_assoc, get_app, List.getElem?_append_left hql, hq]
  simp only [aloud, evD_of hx, evD_of hy, aappend, hE, hY, aSliceLen, hcell]
  rw [if_neg (by simp [hn1]; omega), if_neg (by omega)]
  simp only [hg]
  rw [if_neg (by omega), if_pos ⟨hb.1, hb.2, Nat.le_refl _⟩, if_pos (by simp [hc])]
  rw [set_new_at M L hk]
  simp [List.take_of_length_le (show c.length ≤ n * s by omega)]
/-- Elements are added to a row that may grow: its block is let go. -/
theorem Step.appGX {x y : Operand} {X Y e e' : TypeId} {by_ s r n xl sz k q : Nat} {z : Array Value} {c new : List Value} {kd : Kind} {M L L' : AM} (hk : L.length = k) (hx : evo t x = some (.slice (some ⟨M.length + q, 0, none⟩) n n)) (hy : evo t y = some (.slice (some ⟨r, 0, none⟩) xl xl)) (hE : elemB P X = some (e, s, by_, z)) (hY : P.underlying Y = some (.slice e'))
    (hs : Nat.blt 0 s = true) (hxl : 0 < xl) (hq : L[q]? = some (some { cells := c, kind := .grow, size := s })) (hc : c.length = n * s) (hr : (M ++ L)[r]? = some (some { cells := new, kind := kd, size := sz })) (hn : new.length = xl * s) (hn1 : new.all (·.oneCell') = true) (hb : (n + xl) * by_ ≤ 1099511627776 ∧ n + xl ≤ 1099511627776) (hlt : Nat.blt d nt = true)
    (hL : L.set q none ++ [some { cells := c ++ new, kind := .grow, size := s }] = L') (hK : K (put t d (.slice (some ⟨M.length + k, 0, none⟩) (n + xl) (n + xl))) (M ++ L')) :
    Step P nt ops ⟨some d, .call ⟨.builtin .append, #[x, y], #[X, Y]⟩, T, p, af, none⟩ t (M ++ L) K := by
  subst hL
  have hs : 0 < s := Nat.le_of_ble_eq_true hs
  refine .l rfl rfl hlt rfl (by simp [Op.operands, Call.operands, hx, hy]) (loudN hk rfl (v := .slice (some ⟨M.length + k, 0, none⟩) (n + xl) (n + xl)) ?_ hK)
  have hrl : r < (M ++ L).length := (List.getElem?_eq_some_iff.1 hr).1
  have hql : q < L.length := (List.getElem?_eq_some_iff.1 hq).1
  have hcell : acells ((M ++ L) ++ [none]) s xl (.slice (some ⟨r, 0, none⟩) xl xl) = some new := by
    have hg : ((M ++ L) ++ [none])[r]? = some (some { cells := new, kind := kd, size := sz }) := by rw [List.getElem?_append_left hrl, hr]
    simp only [acells, hg]
    rw [if_neg (by omega), if_pos ⟨Nat.le_refl _, by simp [hn]⟩]
    simp [← hn]
  have hg : ((M ++ L) ++ [none])[M.length + q]? = some (some { cells := c, kind := .grow, size := s }) := by rw [List.append_assoc, get_app, List.getElem?_append_left hql, hq]
  simp only [aloud, evD_of hx, evD_of hy, aappend, hE, hY, aSliceLen, hcell]
  rw [if_neg (by simp [hn1]; omega), if_neg (by omega)]
  simp only [hg]
  rw [if_neg (by omega), if_pos ⟨hb.1, hb.2, Nat.le_refl _⟩, if_pos ⟨by simp [hc], trivial⟩]
  simp only [List.drop_zero, Option.some.injEq, Prod.mk.injEq, true_and]
  have h1 : ((M ++ L) ++ [none]).set (M.length + q) none = (M ++ L.set q none) ++ [none] := by
    rw [List.append_assoc, set_app, List.set_append_left _ _ hql, List.append_assoc]
  rw [h1, List.take_of_length_le (by omega)]
  exact set_new_at M (L.set q none) (k := k) (by simpa using hk) _ none
end
/-- A plan in memory: a whole row of its own. -/
def PL (b0 : Nat) (l : List Nd) (M : AM) (v : Value) : Prop := ∃ (a : Nat) (kd : Kind) (sz : Nat), b0 ≤ a ∧ v = .slice (some ⟨a, 0, none⟩) l.length l.length ∧ 0 < l.length ∧ M[a]? = some (some { cells := ndc l, kind := kd, size := sz }) ∧ ((kd = .own ∧ sz = 1) ∨ (kd = .grow ∧ sz = 3))
end Go.Proofs.YtibhgdglbillaaaDoor.Abs
namespace Go.Proofs.YtibhgdglbillaaaDoor.Abs
set_option linter.unusedSimpArgs false
set_option linter.unusedVariables false
open Go.RowKit
open Go.Proofs.YtibhgdglbillaaaDoor.Sim
open Go.Proofs
section
variable {P : Program} {nt : Nat} {ops : Array Oper} {t : Fm} {m : AM} {K : Fm → AM → Prop} {d T : Nat} {p : String} {af : Array Edge}
theorem Step.appOXg {x y : Operand} {X Y e e' : TypeId} {by_ s a r n xl sz : Nat} {z : Array Value} {c new : List Value} {kd : Kind} (hx : evo t x = some (.slice (some ⟨a, 0, none⟩) n n)) (hy : evo t y = some (.slice (some ⟨r, 0, none⟩) xl xl)) (hE : elemB P X = some (e, s, by_, z)) (hY : P.underlying Y = some (.slice e'))
    (hs : Nat.blt 0 s = true) (hxl : 0 < xl) (hq : m[a]? = some (some { cells := c })) (hc : c.length = n * s) (hr : m[r]? = some (some { cells := new, kind := kd, size := sz })) (hn : new.length = xl * s) (hn1 : new.all (·.oneCell') = true) (hb : (n + xl) * by_ ≤ 1099511627776 ∧ n + xl ≤ 1099511627776) (hlt : Nat.blt d nt = true)
    (hK : K (put t d (.slice (some ⟨m.length, 0, none⟩) (n + xl) (n + xl))) (m ++ [some { cells := c ++ new, kind := .grow, size := s }])) :
    Step P nt ops ⟨some d, .call ⟨.builtin .append, #[x, y], #[X, Y]⟩, T, p, af, none⟩ t m K := by
  have := Step.appOX (P := P) (nt := nt) (ops := ops) (T := T) (p := p) (af := af) (M := []) (L := m) (k := m.length) (q := a) (K := K) rfl (by simpa using hx) hy hE hY hs hxl hq hc (by simpa using hr) hn hn1 hb hlt rfl (by simpa using hK)
  simpa using this
theorem Step.appGXg {x y : Operand} {X Y e e' : TypeId} {by_ s a r n xl sz : Nat} {z : Array Value} {c new : List Value} {kd : Kind} (hx : evo t x = some (.slice (some ⟨a, 0, none⟩) n n)) (hy : evo t y = some (.slice (some ⟨r, 0, none⟩) xl xl)) (hE : elemB P X = some (e, s, by_, z)) (hY : P.underlying Y = some (.slice e'))
    (hs : Nat.blt 0 s = true) (hxl : 0 < xl) (hq : m[a]? = some (some { cells := c, kind := .grow, size := s })) (hc : c.length = n * s) (hr : m[r]? = some (some { cells := new, kind := kd, size := sz })) (hn : new.length = xl * s) (hn1 : new.all (·.oneCell') = true) (hb : (n + xl) * by_ ≤ 1099511627776 ∧ n + xl ≤ 1099511627776) (hlt : Nat.blt d nt = true)
    (hK : K (put t d (.slice (some ⟨m.length, 0, none⟩) (n + xl) (n + xl))) (m.set a none ++ [some { cells := c ++ new, kind := .grow, size := s }])) :
    Step P nt ops ⟨some d, .call ⟨.builtin .append, #[x, y], #[X, Y]⟩, T, p, af, none⟩ t m K := by
  have := Step.appGX (P := P) (nt := nt) (ops := ops) (T := T) (p := p) (af := af) (M := []) (L := m) (k := m.length) (q := a) (K := K) rfl (by simpa using hx) hy hE hY hs hxl hq hc (by simpa using hr) hn hn1 hb hlt rfl (by simpa using hK)
  simpa using this
end
set_option maxHeartbeats 4000000 in
set_option maxRecDepth 100000 in
theorem pw_ok {m : AM} {p q a5 a3 : Nat} {B : Brd} {K : List Kd} (hB : BoardAt m p B K) (hg : goodB B K = true) (h5 : Rd m a5 0 (.slice (some ⟨q, 0, none⟩) (total (bw B) (bh B)) (total (bw B) (bh B)))) (h3 : Rd m a3 0 (.pointer (some ⟨p, 0, none⟩)))
    (hq : m[q]? = some (some { cells := iv (boardT B K) })) {r : R4} (hr : r.ok (bw B) (bh B)) :
    ACall Tryd.prog 105 #[.agg r.rc.cells.toArray, .pointer (some ⟨a5, 0, none⟩), .pointer (some ⟨a3, 0, none⟩)] m (Ret (.int .i64 (V (leafM B K) r)) m) := by
  have hgb : boardB B = true := by simp only [goodB, Bool.and_eq_true] at hg; exact hg.1
  have hin := good_in hgb
  have tw := hB.w
  have th := hB.h
  have hat := at_lt hin.2.2.2 hin.2.1 hr
  have hT := bestT_ok (leaf := leafM B K) hin.2.2.2 hin.2.1
  have hv : (boardT B K).getD (r.at (bw B) (bh B)) 0 = V (leafM B K) r := hT.dn _ hr
  have hlen : (boardT B K).length = total (bw B) (bh B) := hT.len
  have nn := fun T => num_ok (m := T) hin.2.2.2 hin.2.1 hr
  change ∀ T, ACall Tryd.prog 63 #[_, _, .agg r.rc.cells.toArray] _ _ at nn
  have hrd : Rd m q (r.at (bw B) (bh B)) (.int .i64 (V (leafM B K) r)) := by rw [← hv]; exact rd_iv hq rfl (by omega)
  have r0 : ∀ T : AM, RdL (m ++ (some { cells := r.rc.cells } :: T)) (m.length + 0) 0 r.rc.cells := fun T => RdL.new rfl rfl
  have g0 : ∀ v ∈ r.rc.cells, g0 v = true := fun v hv => by
    simp [Rc.cells] at hv
    rcases hv with rfl | rfl | rfl | rfl <;> rfl
  generalize V (leafM B K) r = vv at *
  generalize r.at (bw B) (bh B) = n at *
  refine ACall.start Tryd.func105 rfl rfl ?_
  (repeat (first | (with_reducible refine AWo.cons ?_) | ((with_reducible refine Step.id ?_); first | ((with_reducible apply Step.assign); exact rfl; exact rfl) | ((with_reducible apply Step.box 0); exact rfl; exact rfl; (focus (kernel_rfl)); exact rfl; (focus (first | (simp only [List.nil_append, List.cons_append, List.set_cons_zero, List.set_cons_succ, iv_set, bv_set, iv_rep, bv_rep]; done) | (simp only [List.nil_append, List.cons_append, List.set_cons_zero, List.set_cons_succ, iv_set, bv_set, iv_rep, bv_rep]; rfl) | rfl)))) | (with_reducible refine AWo.nil ?_) | ((fail_if_success (with_reducible refine AW.atR (id := 1) ?_)); ((with_reducible apply AW.seq))) | ((with_reducible apply Then.n)) | ((with_reducible apply AW.regL))))
  change AW _ _ _ _ _ (m ++ [some { cells := r.rc.cells }]) _
  generalize r.rc = rr at *
  (repeat' (first | ((with_reducible refine Step.id ?_); first | ((with_reducible apply Step.assign); exact rfl; exact rfl) | ((with_reducible apply Step.load); exact rfl; (focus (decide +kernel)); exact rfl; (focus (exact Rd.old _ (by assumption)))) | ((with_reducible apply Step.loadL (n := 4)); exact rfl; (focus (decide +kernel)); (focus (decide +kernel)); exact rfl; (focus (exact RdL.new rfl rfl)); exact rfl; exact rfl) | ((with_reducible apply Step.ix1z); exact rfl; (focus (exact Sl.mk (by omega))); exact rfl; (focus (decide +kernel)); exact rfl; (focus (omega))) | ((with_reducible apply Step.field (k := 2)); exact rfl; (focus (decide +kernel)); exact rfl) | ((with_reducible apply Step.field (k := 3)); exact rfl; (focus (decide +kernel)); exact rfl) | ((with_reducible apply Step.nilp); exact rfl; exact rfl) | ((with_reducible apply Step.callR fit); exact rfl; exact Tryd.func63; exact rfl; exact rfl; exact (nn _))) | ((with_reducible apply AW.seq)) | ((with_reducible apply Then.n)) | ((with_reducible apply AW.drawT fit (T := (.step 1 (.step 2 (.step 3 (.step 4 (.step 5 (.step 6 (.step 7 (.step 8 (.step 9 (.both (.step 0 (.step 10 (.step 11 (.step 12 (.step 13 .done))))) (.step 10 (.step 0 (.step 11 (.step 12 (.step 13 .done))))))))))))))))); (focus (decide +kernel))) | ((with_reducible apply AWt.step); exact rfl) | ((with_reducible apply AWt.done)) | refine AWt.both ?_ ?_))
  all_goals
    (refine AW.retD (l := [(4, _)]) (by repeat (first | exact trivial | (refine And.intro ⟨rfl, by (exact .int _ _)⟩ ?_))) ?_; (repeat (first | refine Then.r ?_ | refine InBlk.r ?_)))
    exact ⟨_, rfl, rfl, rfl⟩
theorem bl121 {a b : Int} {c : Bool} : abuild Tryd.prog 121 [(0, .int .i64 a), (1, .int .i64 b), (2, .bool c)] = some (.agg #[.int .i64 a, .int .i64 b, .bool c]) := by kernel_rfl
theorem bs55 {m : AM} {k : Nat} {a b : Int} {c : Bool} : abuildSlice Tryd.prog m k 55 1 [(0, .agg #[.int .i64 a, .int .i64 b, .bool c])] = some (.slice (some ⟨k, 0, none⟩) 1 1, m.set k (some { cells := [.int .i64 a, .int .i64 b, .bool c] })) := by kernel_rfl
theorem el55 : elemB Tryd.prog 55 = some (121, 3, 24, #[.int .i64 0, .int .i64 0, .bool false]) := by kernel_rfl
theorem un55 : Tryd.prog.underlying 55 = some (.slice 121) := by kernel_rfl
section
variable {B : Brd} {K : List Kd} {f : Nat} {r : R4}
theorem plM_zero (h : V (leafM B K) r = 0) : plM B K (f + 1) r = [(0, 0, false)] := by simp only [plM]; rw [if_pos h]
theorem plM_piece {k : Nat} (h : ¬ V (leafM B K) r = 0) (hk : k < K.length) (hb : ∀ j, j < k → pkQ B K r j = false) (ha : pkQ B K r k = true) : plM B K (f + 1) r = ([(1, (k : Nat), turnedB (K.getD k default) r)] : List Nd) := by
  have e : lq (pkQ B K r) K.length = k := lq_eq (by omega) hb fun _ => ha
  simp only [plM]
  rw [if_neg h, e, if_pos hk]
theorem plM_true {i : Nat} (h : ¬ V (leafM B K) r = 0) (hp : ¬ lq (pkQ B K r) K.length < K.length) (hi : i < r.len true - 1) (hb : ∀ j, j < i → ctQ B K r true j = false) (ha : ctQ B K r true i = true) :
    plM B K (f + 1) r = ((2, (i + 1 : Nat), false) : Nd) :: (plM B K f (r.lo true (i + 1)) ++ plM B K f (r.hi true (i + 1))) := by
  have e : lq (ctQ B K r true) (r.len true - 1) = i := lq_eq (by omega) hb fun _ => ha
  simp only [plM]
  rw [if_neg h, if_neg hp, e, if_pos hi]
theorem plM_false {i : Nat} (h : ¬ V (leafM B K) r = 0) (hp : ¬ lq (pkQ B K r) K.length < K.length) (ht : ¬ lq (ctQ B K r true) (r.len true - 1) < r.len true - 1) (hi : i < r.len false - 1) (hb : ∀ j, j < i → ctQ B K r false j = false) (ha : ctQ B K r false i = true) :
    plM B K (f + 1) r = ((3, (i + 1 : Nat), false) : Nd) :: (plM B K f (r.lo false (i + 1)) ++ plM B K f (r.hi false (i + 1))) := by
  have e : lq (ctQ B K r false) (r.len false - 1) = i := lq_eq (by omega) hb fun _ => ha
  simp only [plM]
  rw [if_neg h, if_neg hp, if_neg ht, e, if_pos hi]
theorem no_lq {q : Nat → Bool} {n : Nat} (h : ∀ j, j < n → q j = false) : ¬ lq q n < n := fun a => by
  have := lq_at a
  rw [h _ a] at this; cases this
/-- A plan has fewer nodes than that. -/
theorem plM_len : ∀ (f : Nat) (r : R4), (plM B K f r).length + 1 ≤ 2 ^ f
  | 0, _ => by simp [plM]
  | f + 1, r => by
    have h := fun r' => plM_len f r'
    have hp : 1 ≤ 2 ^ f := Nat.one_le_two_pow
    have h2 : 2 ^ (f + 1) = 2 ^ f + 2 ^ f := by rw [Nat.pow_succ]; omega
    simp only [plM]
    rw [h2]
    split
    · simp; omega
    · split
      · simp; omega
      · split
        · have a := h (r.lo true (lq (ctQ B K r true) (r.len true - 1) + 1))
          have b := h (r.hi true (lq (ctQ B K r true) (r.len true - 1) + 1))
          simp only [List.length_cons, List.length_append]
          omega
        · split
          · have a := h (r.lo false (lq (ctQ B K r false) (r.len false - 1) + 1))
            have b := h (r.hi false (lq (ctQ B K r false) (r.len false - 1) + 1))
            simp only [List.length_cons, List.length_append]
            omega
          · simp; omega
end
theorem PL.cons {b0 : Nat} {x : Nd} {l1 l2 : List Nd} {M : AM} {a : Nat} (h : b0 ≤ a) (hM : M[a]? = some (some { cells := (ndc1 x ++ ndc l1) ++ ndc l2, kind := .grow, size := 3 })) : PL b0 (x :: (l1 ++ l2)) M (.slice (some ⟨a, 0, none⟩) (1 + l1.length + l2.length) (1 + l1.length + l2.length)) :=
  ⟨a, .grow, 3, h, by rw [show (x :: (l1 ++ l2)).length = 1 + l1.length + l2.length by simp; omega], by simp, by rw [hM]; simp [ndc], .inr ⟨rfl, rfl⟩⟩
set_option maxHeartbeats 16000000 in
set_option maxRecDepth 100000 in
theorem planF_ok {B : Brd} {K : List Kd} (hg : goodB B K = true) : ∀ (f : Nat), f ≤ 32 → ∀ {r : R4}, r.ok (bw B) (bh B) → r.size ≤ f → ∀ {m : AM} {p q : Nat}, BoardAt m p B K → m[q]? = some (some { cells := iv (boardT B K) }) →
    ACall Tryd.prog 84 #[.pointer (some ⟨p, 0, none⟩), .agg r.rc.cells.toArray, .slice (some ⟨q, 0, none⟩) (total (bw B) (bh B)) (total (bw B) (bh B))] m (More (PL m.length (plM B K f r)) m) := by
  intro f
  induction f with
  | zero =>
    intro _ r hr hs
    exfalso
    unfold R4.ok at hr
    unfold R4.size at hs
    omega
  | succ f ih =>
    intro hf32 r hr hs m p q hB hq
    have ih := @ih (by omega)
    have hgb : boardB B = true := by simp only [goodB, Bool.and_eq_true] at hg; exact hg.1
    have hin := good_in hgb
    have hp := hB.lt
    have hql := (List.getElem?_eq_some_iff.1 hq).1
    have hkl : K.length ≤ 12 := by simp only [goodB, kindsB, Bool.and_eq_true, decide_eq_true_eq] at hg; exact hg.2.1
    have hV := V_in hg hr
    have h16 : r.x ≤ 16 ∧ r.y ≤ 16 ∧ r.a ≤ 16 ∧ r.b ≤ 16 := by
      have := hin
      unfold R4.ok at hr
      omega
    have hpw : 2 ^ f ≤ 2 ^ 31 := Nat.pow_le_pow_right (by omega) (by omega)
    have hlen : ∀ r', (plM B K f r').length ≤ 2147483648 := fun r' => by
      have := plM_len (B := B) (K := K) f r'
      omega
    obtain ⟨M0, hM0⟩ : ∃ M0, m ++ [some { cells := [.pointer (some ⟨p, 0, none⟩)] }, some { cells := r.rc.cells }, some { cells := [.slice (some ⟨q, 0, none⟩) (total (bw B) (bh B)) (total (bw B) (bh B))] }] = M0 := ⟨_, rfl⟩
    have hM0l : M0.length = m.length + 3 := by rw [← hM0]; simp
    have hcl : ∀ (T : AM) (r' : R4), r'.ok (bw B) (bh B) → ACall Tryd.prog 105 #[.agg r'.rc.cells.toArray, .pointer (some ⟨m.length + 2, 0, none⟩), .pointer (some ⟨m.length + 0, 0, none⟩)] (M0 ++ T) (Ret (.int .i64 (V (leafM B K) r')) (M0 ++ T)) := fun T r' h' => by
      rw [← hM0]
      exact pw_ok ((hB.old _).old _) hg ((Rd.new (k := 2) rfl rfl).old _) ((Rd.new (k := 0) rfl rfl).old _) (get_old _ (get_old _ hq)) h'
    have y3 : ∀ T, Rd (M0 ++ T) (m.length + 0) 0 (.pointer (some ⟨p, 0, none⟩)) := fun T => by rw [← hM0]; exact (Rd.new (k := 0) rfl rfl).old _
    have y5 : ∀ T, Rd (M0 ++ T) (m.length + 2) 0 (.slice (some ⟨q, 0, none⟩) (total (bw B) (bh B)) (total (bw B) (bh B))) := fun T => by rw [← hM0]; exact (Rd.new (k := 2) rfl rfl).old _
    have y4 : ∀ T, RdL (M0 ++ T) (m.length + 1) 0 r.rc.cells := fun T => by rw [← hM0]; exact RdL.old _ (show RdL (m ++ [some { cells := [.pointer (some ⟨p, 0, none⟩)] }, some { cells := r.rc.cells }, some { cells := [.slice (some ⟨q, 0, none⟩) (total (bw B) (bh B)) (total (bw B) (bh B))] }]) (m.length + 1) 0 r.rc.cells from RdL.new rfl rfl)
    have hB0 : ∀ T, BoardAt (M0 ++ T) p B K := fun T => by rw [← hM0]; exact (hB.old _).old _
    have hq0 : ∀ T, (M0 ++ T)[q]? = some (some { cells := iv (boardT B K) }) := fun T => by rw [← hM0]; exact get_old _ (get_old _ hq)
    have hMN : ∃ N, M0 = m ++ N := ⟨_, hM0.symm⟩
    have w3 : Low M0.length (.pointer (some ⟨m.length + 0, 0, none⟩)) := Low.ptr (by omega)
    have w4 : Low M0.length (.pointer (some ⟨m.length + 1, 0, none⟩)) := Low.ptr (by omega)
    have w5 : Low M0.length (.pointer (some ⟨m.length + 2, 0, none⟩)) := Low.ptr (by omega)
    have w7 : Low M0.length (.func (.func 105) #[] #[.pointer (some ⟨m.length + 2, 0, none⟩), .pointer (some ⟨m.length + 0, 0, none⟩)]) := Low.func (fun v hv => by
      simp only [List.mem_cons, List.not_mem_nil, or_false] at hv
      rcases hv with rfl | rfl
      · exact w5
      · exact w3)
    have hclr := fun T => hcl T r hr
    have hf := Tryd.func105
    obtain ⟨bd, hb⟩ : ∃ bd, Tryd.f105.body = some bd := ⟨_, rfl⟩
    have gr : ∀ v ∈ r.rc.cells, g0 v = true := fun v hv => by
      simp [Rc.cells] at hv
      rcases hv with rfl | rfl | rfl | rfl <;> rfl
    obtain ⟨_, ⟨kv, k1, A, O, sl, la, rd⟩, _, _, _⟩ := id (hB0 [])
    rw [List.append_nil] at la
    obtain ⟨q', c', rfl⟩ := sl.shape
    have wl : Low M0.length (.slice q' K.length c') := Low.of_sl sl la
    rw [List.append_nil] at k1 rd
    refine ACall.start Tryd.func84 rfl rfl ?_
    (repeat (first | (with_reducible refine AWo.cons ?_) | ((with_reducible refine Step.id ?_); first | ((with_reducible apply Step.assign); exact rfl; exact rfl) | ((with_reducible apply Step.box 0); exact rfl; exact rfl; (focus (kernel_rfl)); exact rfl; (focus (first | (simp only [List.nil_append, List.cons_append, List.set_cons_zero, List.set_cons_succ, iv_set, bv_set, iv_rep, bv_rep]; done) | (simp only [List.nil_append, List.cons_append, List.set_cons_zero, List.set_cons_succ, iv_set, bv_set, iv_rep, bv_rep]; rfl) | rfl))) | ((with_reducible apply Step.box 1); exact rfl; exact rfl; (focus (kernel_rfl)); exact rfl; (focus (first | (simp only [List.nil_append, List.cons_append, List.set_cons_zero, List.set_cons_succ, iv_set, bv_set, iv_rep, bv_rep]; done) | (simp only [List.nil_append, List.cons_append, List.set_cons_zero, List.set_cons_succ, iv_set, bv_set, iv_rep, bv_rep]; rfl) | rfl))) | ((with_reducible apply Step.box 2); exact rfl; exact rfl; (focus (kernel_rfl)); exact rfl; (focus (first | (simp only [List.nil_append, List.cons_append, List.set_cons_zero, List.set_cons_succ, iv_set, bv_set, iv_rep, bv_rep]; done) | (simp only [List.nil_append, List.cons_append, List.set_cons_zero, List.set_cons_succ, iv_set, bv_set, iv_rep, bv_rep]; rfl) | rfl)))) | (with_reducible refine AWo.nil ?_) | ((fail_if_success (with_reducible refine AW.atR (id := 1) ?_)); ((with_reducible apply AW.seq))) | ((with_reducible apply Then.n)) | ((with_reducible apply AW.regL))))
    change AW _ _ _ _ _ (m ++ [some { cells := [.pointer (some ⟨p, 0, none⟩)] }, some { cells := r.rc.cells }, some { cells := [.slice (some ⟨q, 0, none⟩) (total (bw B) (bh B)) (total (bw B) (bh B))] }]) _
    rw [hM0]
    refine AW.rebase ?_
    (repeat (first | (with_reducible refine AWo.cons ?_) | ((with_reducible refine Step.id ?_); first | ((with_reducible apply Step.assign); exact rfl; exact rfl) | ((with_reducible apply Step.fn); exact rfl; exact rfl; exact rfl)) | (with_reducible refine AWo.nil ?_) | ((fail_if_success (with_reducible refine AW.atR (id := 2) ?_)); ((with_reducible apply AW.seq))) | ((with_reducible apply Then.n)) | ((with_reducible apply AW.regL))))
    by_cases h0 : V (leafM B K) r = 0
    · rw [plM_zero h0]
      rw [h0] at hclr
      (repeat (first | (with_reducible refine AWo.cons ?_) | ((with_reducible refine Step.id ?_); first | ((with_reducible apply Step.move); exact rfl; exact rfl) | ((with_reducible apply Step.assign); exact rfl; exact rfl) | ((with_reducible apply Step.loadL (n := 4)); exact rfl; (focus (decide +kernel)); (focus (decide +kernel)); exact rfl; (focus (exact y4 _)); exact rfl; exact rfl) | ((with_reducible apply Step.eql); exact rfl; exact rfl; exact rfl) | ((with_reducible apply Step.callV fit); exact rfl; exact rfl; exact hf; exact hb; exact rfl; exact (hclr _)) | ((with_reducible apply Step.buildS 0); exact rfl; exact rfl; exact (fun _ _ => bs55); exact rfl; (focus (first | (simp only [List.nil_append, List.cons_append, List.set_cons_zero, List.set_cons_succ, iv_set, bv_set, iv_rep, bv_rep]; done) | (simp only [List.nil_append, List.cons_append, List.set_cons_zero, List.set_cons_succ, iv_set, bv_set, iv_rep, bv_rep]; rfl) | rfl))) | ((with_reducible apply Step.build); exact rfl; exact bl121; exact rfl)) | (with_reducible refine AWo.nil ?_) | ((with_reducible apply AW.seq)) | ((with_reducible apply Then.n)) | ((with_reducible apply AW.regL)) | ((with_reducible apply AW.condT); exact rfl; (focus (rfl)))))
      (refine AW.ret ?_; (repeat (first | refine Then.r ?_ | refine InBlk.r ?_)))
      obtain ⟨N, hN⟩ := hMN
      exact ⟨_, rfl, N ++ [some { cells := [.int .i64 0, .int .i64 0, .bool false] }], by rw [hN, List.append_assoc], M0.length + 0, .own, 1, by omega, rfl, by decide, by rw [get_app]; rfl, .inl ⟨rfl, rfl⟩⟩
    · (repeat (first | (with_reducible refine AWo.cons ?_) | ((with_reducible refine Step.id ?_); first | ((with_reducible apply Step.move); exact rfl; exact rfl) | ((with_reducible apply Step.load); exact rfl; (focus (decide +kernel)); exact rfl; (focus (first | exact y3 _ | exact Rd.old _ (by assumption)))) | ((with_reducible apply Step.loadL (n := 4)); exact rfl; (focus (decide +kernel)); (focus (decide +kernel)); exact rfl; (focus (exact y4 _)); exact rfl; exact rfl) | ((with_reducible apply Step.field (k := 1)); exact rfl; (focus (decide +kernel)); exact rfl) | ((with_reducible apply Step.eql); exact rfl; exact rfl; exact rfl) | ((with_reducible apply Step.len); exact rfl; (focus (assumption)); (focus (decide +kernel)); exact rfl) | ((with_reducible apply Step.nilp); exact rfl; exact rfl) | ((with_reducible apply Step.callV fit); exact rfl; exact rfl; exact hf; exact hb; exact rfl; exact (hclr _))) | (with_reducible refine AWo.nil ?_) | ((with_reducible apply AW.seq)) | ((with_reducible apply Then.n)) | ((with_reducible apply AW.regL)) | ((with_reducible apply AW.block)) | ((with_reducible apply AW.skip)) | ((with_reducible apply AW.condF); exact rfl; (focus ((simp only [decide_eq_true_eq, decide_eq_false_iff_not, Bool.not_eq_true', Bool.not_eq_false', Bool.not_true, Bool.not_false]; first | assumption | omega))))))
      refine AW.loopT (fun n t L => ∃ k : Nat, n = K.length - k ∧ k ≤ K.length ∧ (∀ j, j < k → pkQ B K r j = false) ∧ L = [] ∧ t = [(3, .pointer (some ⟨m.length + 0, 0, none⟩)), (4, .pointer (some ⟨m.length + 1, 0, none⟩)), (5, .pointer (some ⟨m.length + 2, 0, none⟩)), (7, .func (.func 105) #[] #[.pointer (some ⟨m.length + 2, 0, none⟩), .pointer (some ⟨m.length + 0, 0, none⟩)]), (27, .slice q' K.length c'), (28, .int .i64 (K.length : Nat)), (29, .int .i64 (k : Nat))]) ⟨_, _, _, (Or.inl ⟨rfl, (by repeat (first | exact trivial | (refine And.intro rfl ?_)))⟩), 0, rfl, Nat.zero_le _, fun j hj => by omega, rfl, rfl⟩ ?_
      rintro n t L ⟨k, rfl, hk, hall, rfl, rfl⟩
      rcases Nat.lt_or_ge k K.length with hlt | hge
      · have rk := rd k hlt
        have hfi := fun T => fits_ok (hB0 T) hg (k := k) hlt hr
        change ∀ T, ACall Tryd.prog 102 #[_, _, .agg r.rc.cells.toArray] _ _ at hfi
        have hpk : pkQ B K r k = (okB B (K.getD k default) r && decide ((K.getD k default).worth = V (leafM B K) r)) := rfl
        have hpm := fun ha => plM_piece (f := f) h0 hlt hall ha
        generalize K.getD k default = kd at *
        obtain ⟨kw, kh, kg, ko, kt⟩ := kd
        simp only [Kd.cells] at rk
        simp only at hpk
        generalize turnedB ⟨kw, kh, kg, ko, kt⟩ r = tb at *
        generalize hvv : V (leafM B K) r = vv at *
        cases hob : okB B ⟨kw, kh, kg, ko, kt⟩ r with
        | false =>
          rw [hob] at hfi hpk
          (repeat (first | (with_reducible refine AWo.cons ?_) | ((with_reducible refine Step.id ?_); first | ((with_reducible apply Step.move); exact rfl; exact rfl) | ((with_reducible apply Step.assign); exact rfl; exact rfl) | ((with_reducible apply Step.load); exact rfl; (focus (decide +kernel)); exact rfl; (focus (exact y3 _))) | ((with_reducible apply Step.loadL (n := 4)); exact rfl; (focus (decide +kernel)); (focus (decide +kernel)); exact rfl; (focus (exact y4 _)); exact rfl; exact rfl) | ((with_reducible apply Step.loadL (n := 5)); exact rfl; (focus (decide +kernel)); (focus (decide +kernel)); exact rfl; (focus (exact RdL.old _ (by assumption))); exact rfl; exact rfl) | ((with_reducible apply Step.ix (s := 5)); exact rfl; (focus (assumption)); exact rfl; (focus (decide +kernel)); exact rfl; (focus (omega))) | ((with_reducible apply Step.lss); exact rfl; exact rfl; exact rfl) | ((with_reducible apply Step.extract); exact rfl; exact rfl; exact rfl) | ((with_reducible apply Step.callR fit); exact rfl; exact Tryd.func102; exact rfl; exact rfl; exact (hfi _)) | ((with_reducible apply Step.alloc 0); exact rfl; exact ze99; exact rfl; (focus (first | (simp only [List.nil_append, List.cons_append, List.set_cons_zero, List.set_cons_succ, iv_set, bv_set, iv_rep, bv_rep]; done) | (simp only [List.nil_append, List.cons_append, List.set_cons_zero, List.set_cons_succ, iv_set, bv_set, iv_rep, bv_rep]; rfl) | rfl))) | ((with_reducible apply Step.storeA (k := 0) (n := 5)); exact rfl; exact rfl; exact rfl; exact rfl; (focus (decide +kernel)); exact rfl; (focus (kernel_rfl)); exact rfl; (focus (first | (simp only [List.nil_append, List.cons_append, List.set_cons_zero, List.set_cons_succ, iv_set, bv_set, iv_rep, bv_rep]; done) | (simp only [List.nil_append, List.cons_append, List.set_cons_zero, List.set_cons_succ, iv_set, bv_set, iv_rep, bv_rep]; rfl) | rfl)))) | (with_reducible refine AWo.nil ?_) | ((fail_if_success (with_reducible refine AW.atR (id := 8) ?_)); ((with_reducible apply AW.seq))) | ((with_reducible apply Then.n)) | ((with_reducible apply AW.regL)) | ((with_reducible apply AW.block)) | ((with_reducible apply AW.skip)) | ((with_reducible apply AW.condT); exact rfl; (focus ((simp only [decide_eq_true_eq, decide_eq_false_iff_not, Bool.not_eq_true', Bool.not_eq_false', Bool.not_true, Bool.not_false]; first | assumption | omega))))))
          refine AW.seq ?_
          refine AW.flatN fit [(3, .pointer (some ⟨m.length + 0, 0, none⟩)), (4, .pointer (some ⟨m.length + 1, 0, none⟩)), (5, .pointer (some ⟨m.length + 2, 0, none⟩)), (7, .func (.func 105) #[] #[.pointer (some ⟨m.length + 2, 0, none⟩), .pointer (some ⟨m.length + 0, 0, none⟩)]), (9, .pointer (some ⟨M0.length + 0, 0, none⟩)), (11, .bool false), (27, .slice q' K.length c'), (28, .int .i64 (K.length : Nat)), (29, .int .i64 (k : Nat))] [(3, .pointer (some ⟨m.length + 0, 0, none⟩)), (4, .pointer (some ⟨m.length + 1, 0, none⟩)), (5, .pointer (some ⟨m.length + 2, 0, none⟩)), (7, .func (.func 105) #[] #[.pointer (some ⟨m.length + 2, 0, none⟩), .pointer (some ⟨m.length + 0, 0, none⟩)]), (27, .slice q' K.length c'), (28, .int .i64 (K.length : Nat)), (29, .int .i64 (k : Nat)), (49, .bool false)] [3, 4, 5, 7, 9, 11, 27, 28, 29] [[], [0], [0], [0, 1], [2], [3], [1, 0, 4, 4], [3, 0, 5], [6, 0]] (by repeat (first | exact trivial | (refine And.intro rfl ?_))) rfl (by decide +kernel) ?_ ?_
          · (repeat (first | ((with_reducible refine Step.id ?_); first | ((with_reducible apply Step.gdF); exact rfl; exact rfl; (focus (rfl))) | ((with_reducible apply Step.move); exact rfl; exact rfl) | ((with_reducible apply Step.pickF); exact rfl; exact rfl; exact rfl; exact rfl; (focus (rfl)))) | (apply AWf.cons; exact rfl) | exact ⟨put_same _ _ _, rfl⟩ | ((with_reducible apply AWf.nil))))
            exact (by repeat (first | exact trivial | (refine And.intro rfl ?_)))
          intro t2 ht2
          refine Then.n ?_
          refine AW.weak ht2 ?_
          (repeat (first | (with_reducible refine AWo.cons ?_) | ((with_reducible refine Step.id ?_); first | ((with_reducible apply Step.move); exact rfl; exact rfl) | ((with_reducible apply Step.add); exact rfl; exact rfl; (focus (omega)); exact rfl)) | (with_reducible refine AWo.nil ?_) | ((with_reducible apply Then.n)) | ((with_reducible apply AW.regL)) | ((with_reducible apply InBlk.n)) | ((with_reducible apply AW.skip)) | ((with_reducible apply AW.condF); exact rfl; (focus (rfl)))))
          exact ⟨_, [(3, .pointer (some ⟨m.length + 0, 0, none⟩)), (4, .pointer (some ⟨m.length + 1, 0, none⟩)), (5, .pointer (some ⟨m.length + 2, 0, none⟩)), (7, .func (.func 105) #[] #[.pointer (some ⟨m.length + 2, 0, none⟩), .pointer (some ⟨m.length + 0, 0, none⟩)]), (27, .slice q' K.length c'), (28, .int .i64 (K.length : Nat)), (29, .int .i64 (k + 1 : Nat))], [], by omega, (Back.trim rfl rfl (by repeat (exact CellsOk.nil)) (by repeat (first | exact trivial | (refine And.intro ⟨rfl, by (first | exact Low.rid (by assumption) (by simp) | exact .int _ _)⟩ ?_)))), k + 1, rfl, by omega, fun j hj => by
            rcases Nat.lt_succ_iff_lt_or_eq.1 hj with h' | h'
            · exact hall j h'
            · rw [h', hpk]; rfl, rfl, rfl⟩
        | true =>
          rw [hob, Bool.true_and] at hpk
          rw [hob] at hfi
          (repeat (first | (with_reducible refine AWo.cons ?_) | ((with_reducible refine Step.id ?_); first | ((with_reducible apply Step.move); exact rfl; exact rfl) | ((with_reducible apply Step.assign); exact rfl; exact rfl) | ((with_reducible apply Step.load); exact rfl; (focus (decide +kernel)); exact rfl; (focus (exact y3 _))) | ((with_reducible apply Step.loadL (n := 4)); exact rfl; (focus (decide +kernel)); (focus (decide +kernel)); exact rfl; (focus (exact y4 _)); exact rfl; exact rfl) | ((with_reducible apply Step.loadL (n := 5)); exact rfl; (focus (decide +kernel)); (focus (decide +kernel)); exact rfl; (focus (exact RdL.old _ (by assumption))); exact rfl; exact rfl) | ((with_reducible apply Step.ix (s := 5)); exact rfl; (focus (assumption)); exact rfl; (focus (decide +kernel)); exact rfl; (focus (omega))) | ((with_reducible apply Step.lss); exact rfl; exact rfl; exact rfl) | ((with_reducible apply Step.extract); exact rfl; exact rfl; exact rfl) | ((with_reducible apply Step.callR fit); exact rfl; exact Tryd.func102; exact rfl; exact rfl; exact (hfi _)) | ((with_reducible apply Step.alloc 0); exact rfl; exact ze99; exact rfl; (focus (first | (simp only [List.nil_append, List.cons_append, List.set_cons_zero, List.set_cons_succ, iv_set, bv_set, iv_rep, bv_rep]; done) | (simp only [List.nil_append, List.cons_append, List.set_cons_zero, List.set_cons_succ, iv_set, bv_set, iv_rep, bv_rep]; rfl) | rfl))) | ((with_reducible apply Step.storeA (k := 0) (n := 5)); exact rfl; exact rfl; exact rfl; exact rfl; (focus (decide +kernel)); exact rfl; (focus (kernel_rfl)); exact rfl; (focus (first | (simp only [List.nil_append, List.cons_append, List.set_cons_zero, List.set_cons_succ, iv_set, bv_set, iv_rep, bv_rep]; done) | (simp only [List.nil_append, List.cons_append, List.set_cons_zero, List.set_cons_succ, iv_set, bv_set, iv_rep, bv_rep]; rfl) | rfl)))) | (with_reducible refine AWo.nil ?_) | ((fail_if_success (with_reducible refine AW.atR (id := 8) ?_)); ((with_reducible apply AW.seq))) | ((with_reducible apply Then.n)) | ((with_reducible apply AW.regL)) | ((with_reducible apply AW.block)) | ((with_reducible apply AW.skip)) | ((with_reducible apply AW.condT); exact rfl; (focus ((simp only [decide_eq_true_eq, decide_eq_false_iff_not, Bool.not_eq_true', Bool.not_eq_false', Bool.not_true, Bool.not_false]; first | assumption | omega))))))
          refine AW.seq ?_
          have z9 : Rd (M0 ++ [some { cells := [.int .i64 kw, .int .i64 kh, .int .i64 kg, .int .i64 ko, .bool kt] }]) (M0.length + 0) 3 (.int .i64 ko) := Rd.new rfl rfl
          refine AW.flatN fit [(3, .pointer (some ⟨m.length + 0, 0, none⟩)), (4, .pointer (some ⟨m.length + 1, 0, none⟩)), (5, .pointer (some ⟨m.length + 2, 0, none⟩)), (7, .func (.func 105) #[] #[.pointer (some ⟨m.length + 2, 0, none⟩), .pointer (some ⟨m.length + 0, 0, none⟩)]), (8, .int .i64 (k : Nat)), (9, .pointer (some ⟨M0.length + 0, 0, none⟩)), (10, .bool tb), (11, .bool true), (27, .slice q' K.length c'), (28, .int .i64 (K.length : Nat)), (29, .int .i64 (k : Nat))] [(3, .pointer (some ⟨m.length + 0, 0, none⟩)), (4, .pointer (some ⟨m.length + 1, 0, none⟩)), (5, .pointer (some ⟨m.length + 2, 0, none⟩)), (7, .func (.func 105) #[] #[.pointer (some ⟨m.length + 2, 0, none⟩), .pointer (some ⟨m.length + 0, 0, none⟩)]), (8, .int .i64 (k : Nat)), (10, .bool tb), (27, .slice q' K.length c'), (28, .int .i64 (K.length : Nat)), (29, .int .i64 (k : Nat)), (49, .bool (decide (ko = vv)))] [3, 4, 5, 7, 8, 9, 10, 11, 27, 28, 29] [[], [0], [0], [0, 1], [2], [3], [1, 0, 4, 4], [3, 0, 5], [6, 0]] (by repeat (first | exact trivial | (refine And.intro rfl ?_))) rfl (by decide +kernel) ?_ ?_
          · (repeat (first | ((with_reducible refine Step.id ?_); first | ((with_reducible apply Step.gdT); exact rfl; exact rfl; (focus (rfl))) | ((with_reducible apply Step.move); exact rfl; exact rfl) | ((with_reducible apply Step.load); exact rfl; (focus (decide +kernel)); exact rfl; (focus (assumption))) | ((with_reducible apply Step.loadL (n := 4)); exact rfl; (focus (decide +kernel)); (focus (decide +kernel)); exact rfl; (focus (exact y4 _)); exact rfl; exact rfl) | ((with_reducible apply Step.field (k := 3)); exact rfl; (focus (decide +kernel)); exact rfl) | ((with_reducible apply Step.eql); exact rfl; exact rfl; exact rfl) | ((with_reducible apply Step.pickT); exact rfl; exact rfl; exact rfl; exact rfl; (focus (rfl))) | ((with_reducible apply Step.callV fit); exact rfl; exact rfl; exact hf; exact hb; exact rfl; exact (hclr _))) | (apply AWf.cons; exact rfl) | exact ⟨put_same _ _ _, rfl⟩ | ((with_reducible apply AWf.nil))))
            exact (by repeat (first | exact trivial | (refine And.intro rfl ?_)))
          intro t2 ht2
          refine Then.n ?_
          refine AW.weak ht2 ?_
          by_cases hko : ko = vv
          · rw [decide_eq_true hko] at hpk ⊢
            rw [hpm hpk]
            (repeat (first | (with_reducible refine AWo.cons ?_) | ((with_reducible refine Step.id ?_); first | ((with_reducible apply Step.move); exact rfl; exact rfl) | ((with_reducible apply Step.assign); exact rfl; exact rfl) | ((with_reducible apply Step.buildS 1); exact rfl; exact rfl; exact (fun _ _ => bs55); exact rfl; (focus (first | (simp only [List.nil_append, List.cons_append, List.set_cons_zero, List.set_cons_succ, iv_set, bv_set, iv_rep, bv_rep]; done) | (simp only [List.nil_append, List.cons_append, List.set_cons_zero, List.set_cons_succ, iv_set, bv_set, iv_rep, bv_rep]; rfl) | rfl))) | ((with_reducible apply Step.build); exact rfl; exact bl121; exact rfl)) | (with_reducible refine AWo.nil ?_) | ((with_reducible apply AW.seq)) | ((with_reducible apply Then.n)) | ((with_reducible apply AW.regL)) | ((with_reducible apply AW.condT); exact rfl; (focus (rfl)))))
            (refine AW.ret ?_; (repeat (first | refine Then.r ?_ | refine InBlk.r ?_)))
            obtain ⟨N, hN⟩ := hMN
            exact ⟨_, rfl, N ++ [_, some { cells := [.int .i64 1, .int .i64 (k : Nat), .bool tb] }], by rw [hN, List.append_assoc], M0.length + 1, .own, 1, by omega, rfl, by simp, by rw [get_app]; rfl, .inl ⟨rfl, rfl⟩⟩
          · rw [decide_eq_false hko] at hpk ⊢
            (repeat (first | (with_reducible refine AWo.cons ?_) | ((with_reducible refine Step.id ?_); first | ((with_reducible apply Step.move); exact rfl; exact rfl) | ((with_reducible apply Step.add); exact rfl; exact rfl; (focus (omega)); exact rfl)) | (with_reducible refine AWo.nil ?_) | ((with_reducible apply Then.n)) | ((with_reducible apply AW.regL)) | ((with_reducible apply InBlk.n)) | ((with_reducible apply AW.skip)) | ((with_reducible apply AW.condF); exact rfl; (focus (rfl)))))
            exact ⟨_, [(3, .pointer (some ⟨m.length + 0, 0, none⟩)), (4, .pointer (some ⟨m.length + 1, 0, none⟩)), (5, .pointer (some ⟨m.length + 2, 0, none⟩)), (7, .func (.func 105) #[] #[.pointer (some ⟨m.length + 2, 0, none⟩), .pointer (some ⟨m.length + 0, 0, none⟩)]), (27, .slice q' K.length c'), (28, .int .i64 (K.length : Nat)), (29, .int .i64 (k + 1 : Nat))], [], by omega, (Back.trim rfl rfl (by repeat (exact CellsOk.nil)) (by repeat (first | exact trivial | (refine And.intro ⟨rfl, by (first | exact Low.rid (by assumption) (by simp) | exact .int _ _)⟩ ?_)))), k + 1, rfl, by omega, fun j hj => by
              rcases Nat.lt_succ_iff_lt_or_eq.1 hj with h' | h'
              · exact hall j h'
              · rw [h', hpk], rfl, rfl⟩
      · obtain rfl : k = K.length := by omega
        have hnp := no_lq hall
        clear rd k1 hall
        (repeat (first | (with_reducible refine AWo.cons ?_) | ((with_reducible refine Step.id ?_); first | ((with_reducible apply Step.assign); exact rfl; exact rfl) | ((with_reducible apply Step.lss); exact rfl; exact rfl; exact rfl)) | (with_reducible refine AWo.nil ?_) | ((with_reducible apply AW.seq)) | ((with_reducible apply Then.n)) | ((with_reducible apply AW.regL)) | ((with_reducible apply AW.block)) | ((with_reducible apply AW.exit)) | ((with_reducible apply InBlk.hit)) | ((with_reducible apply Then.e)) | ((with_reducible apply AW.condF); exact rfl; (focus ((simp only [decide_eq_true_eq, decide_eq_false_iff_not, Bool.not_eq_true', Bool.not_eq_false', Bool.not_true, Bool.not_false]; first | assumption | omega))))))
        refine AW.loopT (fun n t L => ∃ kk : Nat, n = 2 - kk ∧ kk ≤ 2 ∧ (1 ≤ kk → ¬ lq (ctQ B K r true) (r.len true - 1) < r.len true - 1) ∧ (2 ≤ kk → ¬ lq (ctQ B K r false) (r.len false - 1) < r.len false - 1) ∧ L = [] ∧ t = [(3, .pointer (some ⟨m.length + 0, 0, none⟩)), (4, .pointer (some ⟨m.length + 1, 0, none⟩)), (5, .pointer (some ⟨m.length + 2, 0, none⟩)), (7, .func (.func 105) #[] #[.pointer (some ⟨m.length + 2, 0, none⟩), .pointer (some ⟨m.length + 0, 0, none⟩)]), (12, .int .i64 (2 + kk : Nat))]) ⟨_, [(3, .pointer (some ⟨m.length + 0, 0, none⟩)), (4, .pointer (some ⟨m.length + 1, 0, none⟩)), (5, .pointer (some ⟨m.length + 2, 0, none⟩)), (7, .func (.func 105) #[] #[.pointer (some ⟨m.length + 2, 0, none⟩), .pointer (some ⟨m.length + 0, 0, none⟩)]), (12, .int .i64 2)], _, (Or.inl ⟨rfl, (by repeat (first | exact trivial | (refine And.intro rfl ?_)))⟩), 0, rfl, by omega, fun h => by omega, fun h => by omega, rfl, rfl⟩ ?_
        rintro n t L ⟨kk, rfl, hkk, hn1, hn2, rfl, rfl⟩
        rcases Nat.lt_or_ge kk 2 with hk2 | hk2
        · obtain ⟨d, hd⟩ : ∃ d, d = (kk == 0) := ⟨_, rfl⟩
          have hop : opI d = ((2 + kk : Nat) : Int) := by
            rcases (show kk = 0 ∨ kk = 1 by omega) with rfl | rfl <;> (rw [hd]; rfl)
          have hL := fun M => length_ok (m := M) r d
          rw [hop] at hL
          change ∀ M, ACall Tryd.prog 80 #[.agg r.rc.cells.toArray, _] _ _ at hL
          have hlp := len_pos d hr
          have hl16 := len_le d hin.2.2.2 hin.2.1 hr
          have hplM : ∀ i, i < r.len d - 1 → (∀ j, j < i → ctQ B K r d j = false) → ctQ B K r d i = true → plM B K (f + 1) r = ((((2 + kk : Nat) : Int), (i + 1 : Nat), false) : Nd) :: (plM B K f (r.lo d (i + 1)) ++ plM B K f (r.hi d (i + 1))) := fun i hi hb ha => by
            rcases (show kk = 0 ∨ kk = 1 by omega) with rfl | rfl
            · have hd : d = true := hd
              subst hd
              exact plM_true h0 hnp hi hb ha
            · have hd : d = false := hd
              subst hd
              exact plM_false h0 hnp (hn1 (Nat.le_refl _)) hi hb ha
          (repeat (first | (with_reducible refine AWo.cons ?_) | ((with_reducible refine Step.id ?_); first | ((with_reducible apply Step.move); exact rfl; exact rfl) | ((with_reducible apply Step.assign); exact rfl; exact rfl) | ((with_reducible apply Step.leq); exact rfl; exact rfl; exact rfl)) | (with_reducible refine AWo.nil ?_) | ((with_reducible apply AW.seq)) | ((with_reducible apply Then.n)) | ((with_reducible apply AW.regL)) | ((with_reducible apply AW.block)) | ((with_reducible apply AW.skip)) | ((with_reducible apply AW.condT); exact rfl; (focus ((simp only [decide_eq_true_eq, decide_eq_false_iff_not, Bool.not_eq_true', Bool.not_eq_false', Bool.not_true, Bool.not_false]; first | assumption | omega))))))
          refine AW.loopT (fun n t L => ∃ i : Nat, n = r.len d - i ∧ i + 1 ≤ r.len d ∧ (∀ j, j < i → ctQ B K r d j = false) ∧ L = [] ∧ t = [(3, .pointer (some ⟨m.length + 0, 0, none⟩)), (4, .pointer (some ⟨m.length + 1, 0, none⟩)), (5, .pointer (some ⟨m.length + 2, 0, none⟩)), (7, .func (.func 105) #[] #[.pointer (some ⟨m.length + 2, 0, none⟩), .pointer (some ⟨m.length + 0, 0, none⟩)]), (12, .int .i64 (2 + kk : Nat)), (13, .int .i64 (i + 1 : Nat))]) ⟨_, [(3, .pointer (some ⟨m.length + 0, 0, none⟩)), (4, .pointer (some ⟨m.length + 1, 0, none⟩)), (5, .pointer (some ⟨m.length + 2, 0, none⟩)), (7, .func (.func 105) #[] #[.pointer (some ⟨m.length + 2, 0, none⟩), .pointer (some ⟨m.length + 0, 0, none⟩)]), (12, .int .i64 (2 + kk : Nat)), (13, .int .i64 1)], _, (Or.inl ⟨rfl, (by repeat (first | exact trivial | (refine And.intro rfl ?_)))⟩), 0, rfl, by omega, fun j hj => by omega, rfl, rfl⟩ ?_
          rintro n t L ⟨i, rfl, hi, hall, rfl, rfl⟩
          rcases Nat.lt_or_ge (i + 1) (r.len d) with hil | hil
          · have o1 := lo_ok hr (d := d) (i := i + 1) (by omega) (by omega)
            have o2 := hi_ok hr (d := d) (i := i + 1) (by omega) (by omega)
            have s1 := lo_size hr (d := d) (i := i + 1) (by omega) (by omega)
            have s2 := hi_size hr (d := d) (i := i + 1) (by omega) (by omega)
            have hP := fun M => part_ok (m := M) r d (i := i + 1) (by omega) (by omega) h16
            rw [hop] at hP
            change ∀ M, ACall Tryd.prog 81 #[.agg r.rc.cells.toArray, _, _] _ (Ret (.tuple #[.agg (r.lo d (i + 1)).rc.cells.toArray, .agg (r.hi d (i + 1)).rc.cells.toArray]) _) at hP
            have hc1 := fun T => hcl T _ o1
            have hc2 := fun T => hcl T _ o2
            have V1 := V_in hg o1
            have V2 := V_in hg o2
            have i1 := @ih _ o1 (by omega)
            have i2 := @ih _ o2 (by omega)
            have hct : ctQ B K r d i = decide (V (leafM B K) (r.lo d (i + 1)) + V (leafM B K) (r.hi d (i + 1)) = V (leafM B K) r) := rfl
            have hpl := hplM i (by omega) hall
            have ll1 := hlen (r.lo d (i + 1))
            have ll2 := hlen (r.hi d (i + 1))
            have e1 : (r.lo d (i + 1)).rc.cells.toArray = (r.lo d (i + 1)).rc.cells.toArray := rfl
            generalize plM B K f (r.lo d (i + 1)) = p1 at *
            generalize plM B K f (r.hi d (i + 1)) = p2 at *
            generalize V (leafM B K) (r.lo d (i + 1)) = va at *
            generalize V (leafM B K) (r.hi d (i + 1)) = vb at *
            generalize V (leafM B K) r = vv at *
            generalize (r.lo d (i + 1)).rc = g1 at *
            generalize (r.hi d (i + 1)).rc = g2 at *
            clear e1 hplM hcl
            (repeat (first | (with_reducible refine AWo.cons ?_) | ((with_reducible refine Step.id ?_); first | ((with_reducible apply Step.move); exact rfl; exact rfl) | ((with_reducible apply Step.loadL (n := 4)); exact rfl; (focus (decide +kernel)); (focus (decide +kernel)); exact rfl; (focus (exact y4 _)); exact rfl; exact rfl) | ((with_reducible apply Step.lss); exact rfl; exact rfl; exact rfl) | ((with_reducible apply Step.extract); exact rfl; exact rfl; exact rfl) | ((with_reducible apply Step.callR fit); exact rfl; exact Tryd.func80; exact rfl; exact rfl; exact (hL _)) | ((with_reducible apply Step.callR fit); exact rfl; exact Tryd.func81; exact rfl; exact rfl; exact (hP _)) | ((with_reducible apply Step.alloc 0); exact rfl; exact ze23; exact rfl; (focus (first | (simp only [List.nil_append, List.cons_append, List.set_cons_zero, List.set_cons_succ, iv_set, bv_set, iv_rep, bv_rep]; done) | (simp only [List.nil_append, List.cons_append, List.set_cons_zero, List.set_cons_succ, iv_set, bv_set, iv_rep, bv_rep]; rfl) | rfl))) | ((with_reducible apply Step.storeA (k := 0) (n := 4)); exact rfl; exact rfl; exact rfl; exact rfl; (focus (decide +kernel)); exact rfl; (focus (kernel_rfl)); exact rfl; (focus (first | (simp only [List.nil_append, List.cons_append, List.set_cons_zero, List.set_cons_succ, iv_set, bv_set, iv_rep, bv_rep]; done) | (simp only [List.nil_append, List.cons_append, List.set_cons_zero, List.set_cons_succ, iv_set, bv_set, iv_rep, bv_rep]; rfl) | rfl))) | ((with_reducible apply Step.alloc 1); exact rfl; exact ze23; exact rfl; (focus (first | (simp only [List.nil_append, List.cons_append, List.set_cons_zero, List.set_cons_succ, iv_set, bv_set, iv_rep, bv_rep]; done) | (simp only [List.nil_append, List.cons_append, List.set_cons_zero, List.set_cons_succ, iv_set, bv_set, iv_rep, bv_rep]; rfl) | rfl))) | ((with_reducible apply Step.storeA (k := 1) (n := 4)); exact rfl; exact rfl; exact rfl; exact rfl; (focus (decide +kernel)); exact rfl; (focus (kernel_rfl)); exact rfl; (focus (first | (simp only [List.nil_append, List.cons_append, List.set_cons_zero, List.set_cons_succ, iv_set, bv_set, iv_rep, bv_rep]; done) | (simp only [List.nil_append, List.cons_append, List.set_cons_zero, List.set_cons_succ, iv_set, bv_set, iv_rep, bv_rep]; rfl) | rfl)))) | (with_reducible refine AWo.nil ?_) | ((fail_if_success (with_reducible refine AW.atR (id := 18) ?_)); ((with_reducible apply AW.seq))) | ((with_reducible apply Then.n)) | ((with_reducible apply AW.regL)) | ((with_reducible apply AW.block)) | ((with_reducible apply AW.skip)) | ((with_reducible apply AW.condT); exact rfl; (focus ((simp only [decide_eq_true_eq, decide_eq_false_iff_not, Bool.not_eq_true', Bool.not_eq_false', Bool.not_true, Bool.not_false]; first | assumption | omega))))))
            change AW _ _ _ _ _ (M0 ++ [some { cells := g1.cells }, some { cells := g2.cells }]) _
            have rl : ∀ T, RdL (M0 ++ (some { cells := g1.cells } :: some { cells := g2.cells } :: T)) (M0.length + 0) 0 g1.cells := fun T => RdL.new rfl rfl
            have rh : ∀ T, RdL (M0 ++ (some { cells := g1.cells } :: some { cells := g2.cells } :: T)) (M0.length + 1) 0 g2.cells := fun T => RdL.new rfl rfl
            refine AW.seq ?_
            refine AW.flatN fit [(3, .pointer (some ⟨m.length + 0, 0, none⟩)), (4, .pointer (some ⟨m.length + 1, 0, none⟩)), (5, .pointer (some ⟨m.length + 2, 0, none⟩)), (7, .func (.func 105) #[] #[.pointer (some ⟨m.length + 2, 0, none⟩), .pointer (some ⟨m.length + 0, 0, none⟩)]), (12, .int .i64 (2 + kk : Nat)), (13, .int .i64 (i + 1 : Nat)), (14, .pointer (some ⟨M0.length + 0, 0, none⟩)), (15, .pointer (some ⟨M0.length + 1, 0, none⟩))] [(3, .pointer (some ⟨m.length + 0, 0, none⟩)), (4, .pointer (some ⟨m.length + 1, 0, none⟩)), (5, .pointer (some ⟨m.length + 2, 0, none⟩)), (7, .func (.func 105) #[] #[.pointer (some ⟨m.length + 2, 0, none⟩), .pointer (some ⟨m.length + 0, 0, none⟩)]), (12, .int .i64 (2 + kk : Nat)), (13, .int .i64 (i + 1 : Nat)), (14, .pointer (some ⟨M0.length + 0, 0, none⟩)), (15, .pointer (some ⟨M0.length + 1, 0, none⟩)), (83, .bool (decide (va + vb = vv)))] [3, 4, 5, 7, 12, 13, 14, 15] [[], [], [1, 0], [], [], [1, 0, 2], [3, 0], [], [], [1, 0, 3], [3, 0]] (by repeat (first | exact trivial | (refine And.intro rfl ?_))) rfl (by decide +kernel) ?_ ?_
            · (repeat (first | ((with_reducible refine Step.id ?_); first | ((with_reducible apply Step.move); exact rfl; exact rfl) | ((with_reducible apply Step.loadL (n := 4)); exact rfl; (focus (decide +kernel)); (focus (decide +kernel)); exact rfl; (focus (first | exact RdL.new rfl rfl | exact y4 _)); exact rfl; exact rfl) | ((with_reducible apply Step.add); exact rfl; exact rfl; (focus (omega)); exact rfl) | ((with_reducible apply Step.eql); exact rfl; exact rfl; exact rfl) | ((with_reducible apply Step.callV fit); exact rfl; exact rfl; exact hf; exact hb; exact rfl; exact (hc1 _)) | ((with_reducible apply Step.callV fit); exact rfl; exact rfl; exact hf; exact hb; exact rfl; exact (hc2 _)) | ((with_reducible apply Step.callV fit); exact rfl; exact rfl; exact hf; exact hb; exact rfl; exact (hclr _))) | (apply AWf.cons; exact rfl) | exact ⟨put_same _ _ _, rfl⟩ | ((with_reducible apply AWf.nil))))
              exact (by repeat (first | exact trivial | (refine And.intro rfl ?_)))
            intro t2 ht2
            refine Then.n ?_
            refine AW.weak ht2 ?_
            by_cases hc : va + vb = vv
            · rw [decide_eq_true hc] at hct ⊢
              rw [hpl hct]
              clear hct hpl hc1 hc2 hclr hP hL hV V1 V2 hall hn1 hn2 hnp ht2
              (repeat (first | (with_reducible refine AWo.cons ?_) | ((with_reducible refine Step.id ?_); first | ((with_reducible apply Step.move); exact rfl; exact rfl) | ((with_reducible apply Step.load); exact rfl; (focus (decide +kernel)); exact rfl; (focus (first | exact y3 _ | exact y5 _))) | ((with_reducible apply Step.loadL (n := 4)); exact rfl; (focus (decide +kernel)); (focus (decide +kernel)); exact rfl; (focus (exact RdL.new rfl rfl)); exact rfl; exact rfl) | ((with_reducible apply Step.buildS 2); exact rfl; exact rfl; exact (fun _ _ => bs55); exact rfl; (focus (first | (simp only [List.nil_append, List.cons_append, List.set_cons_zero, List.set_cons_succ, iv_set, bv_set, iv_rep, bv_rep]; done) | (simp only [List.nil_append, List.cons_append, List.set_cons_zero, List.set_cons_succ, iv_set, bv_set, iv_rep, bv_rep]; rfl) | rfl))) | ((with_reducible apply Step.build); exact rfl; exact bl121; exact rfl)) | ((with_reducible apply AW.seq)) | ((with_reducible apply AW.regL)) | ((with_reducible apply AW.condT); exact rfl; (focus (rfl)))))
              ((with_reducible apply Step.callX fit); exact rfl; exact Tryd.func84; exact rfl; exact rfl; exact (i1 (hB0 _) (hq0 _)))
              rintro _ m1 ⟨N1, hN1⟩ ⟨a1, kd1, sz1, q1, rfl, q2, q3, q4⟩
              have x1 : BoardAt m1 p B K := by rw [hN1]; exact (hB0 _).old _
              have x2 : m1[q]? = some (some { cells := iv (boardT B K) }) := by rw [hN1]; exact get_old _ (hq0 _)
              have u3 : ∀ T, Rd (m1 ++ T) (m.length + 0) 0 (.pointer (some ⟨p, 0, none⟩)) := fun T => by rw [hN1]; exact ((y3 _).old _).old _
              have u5 : ∀ T, Rd (m1 ++ T) (m.length + 2) 0 (.slice (some ⟨q, 0, none⟩) (total (bw B) (bh B)) (total (bw B) (bh B))) := fun T => by rw [hN1]; exact ((y5 _).old _).old _
              have u4 : ∀ T, RdL (m1 ++ T) (M0.length + 1) 0 g2.cells := fun T => by rw [hN1]; exact ((rh _).old _).old _
              have lit : (m1 ++ [])[M0.length + 2]? = some (some { cells := ndc1 (((2 + kk : Nat) : Int), ((i + 1 : Nat) : Int), false) }) := by rw [List.append_nil, hN1]; exact get_old _ (by rw [get_app]; rfl)
              have q3' : (m1 ++ [])[a1]? = some (some { cells := ndc p1, kind := kd1, size := sz1 }) := by rw [List.append_nil]; exact q3
              (repeat ((with_reducible refine AWo.cons ?_)))
              ((with_reducible apply Step.appOXg); exact rfl; exact rfl; exact el55; exact un55; exact rfl; exact q2; exact lit; exact rfl; exact q3'; exact (ndc_len _); exact (ndc_one _); (focus (omega)); exact rfl)
              (repeat (first | (with_reducible refine AWo.cons ?_) | ((with_reducible refine Step.id ?_); first | ((with_reducible apply Step.move); exact rfl; exact rfl) | ((with_reducible apply Step.assign); exact rfl; exact rfl) | ((with_reducible apply Step.load); exact rfl; (focus (decide +kernel)); exact rfl; (focus (first | exact Rd.old _ (u3 _) | exact Rd.old _ (u5 _)))) | ((with_reducible apply Step.loadL (n := 4)); exact rfl; (focus (decide +kernel)); (focus (decide +kernel)); exact rfl; (focus (exact RdL.old _ (u4 _))); exact rfl; exact rfl)) | (with_reducible refine AWo.nil ?_) | ((with_reducible apply AW.seq)) | ((with_reducible apply Then.n)) | ((with_reducible apply AW.regL))))
              ((with_reducible apply Step.callX fit); exact rfl; exact Tryd.func84; exact rfl; exact rfl; exact (i2 ((x1.old _).old _) (get_old _ (get_old _ x2))))
              rintro _ m2 ⟨N2, hN2⟩ ⟨a2, kd2, sz2, p1', rfl, p2', p3, p4⟩
              have g1' : (m2 ++ [])[(m1 ++ []).length]? = some (some { cells := ndc1 (((2 + kk : Nat) : Int), ((i + 1 : Nat) : Int), false) ++ ndc p1, kind := .grow, size := 3 }) := by rw [List.append_nil, hN2]; exact get_old _ (by simp)
              have hg1l : (ndc1 (((2 + kk : Nat) : Int), ((i + 1 : Nat) : Int), false) ++ ndc p1).length = (1 + p1.length) * 3 := by rw [List.length_append, ndc_len]; simp [ndc1]; omega
              have p3' : (m2 ++ [])[a2]? = some (some { cells := ndc p2, kind := kd2, size := sz2 }) := by rw [List.append_nil]; exact p3
              (repeat ((with_reducible refine AWo.cons ?_)))
              ((with_reducible apply Step.appGXg); exact rfl; exact rfl; exact el55; exact un55; exact rfl; exact p2'; exact g1'; exact hg1l; exact p3'; exact (ndc_len _); exact (ndc_one _); (focus (omega)); exact rfl)
              (repeat (first | (with_reducible refine AWo.cons ?_) | ((with_reducible refine Step.id ?_); ((with_reducible apply Step.assign); exact rfl; exact rfl)) | (with_reducible refine AWo.nil ?_) | ((with_reducible apply Then.n))))
              (refine AW.ret ?_; (repeat (first | refine Then.r ?_ | refine InBlk.r ?_)))
              obtain ⟨N, hN⟩ := hMN
              obtain ⟨N3, hN3⟩ : ∃ N3, m2 ++ [] = m ++ N3 := ⟨_, by rw [hN2, hN1, hN]; simp only [List.append_nil, List.append_assoc]; rfl⟩
              have hm1l : m.length ≤ (m1 ++ []).length := by rw [hN1, hN]; simp only [List.length_append]; omega
              obtain ⟨N4, hN4⟩ := set_high (m0 := m) (N := N3) (a := (m1 ++ []).length) hm1l none
              refine ⟨_, rfl, N4 ++ [_], by rw [hN3, hN4, List.append_assoc], PL.cons (a := (m2 ++ []).length) ?_ ?_⟩
              · rw [hN3, List.length_append]; omega
              · rw [List.getElem?_append_right (by simp)]; simp
            · rw [decide_eq_false hc] at hct ⊢
              (repeat (first | (with_reducible refine AWo.cons ?_) | ((with_reducible refine Step.id ?_); first | ((with_reducible apply Step.move); exact rfl; exact rfl) | ((with_reducible apply Step.assign); exact rfl; exact rfl) | ((with_reducible apply Step.add); exact rfl; exact rfl; (focus (omega)); exact rfl)) | (with_reducible refine AWo.nil ?_) | ((with_reducible apply Then.n)) | ((with_reducible apply AW.regL)) | ((with_reducible apply InBlk.n)) | ((with_reducible apply AW.skip)) | ((with_reducible apply AW.condF); exact rfl; (focus (rfl)))))
              exact ⟨_, [(3, .pointer (some ⟨m.length + 0, 0, none⟩)), (4, .pointer (some ⟨m.length + 1, 0, none⟩)), (5, .pointer (some ⟨m.length + 2, 0, none⟩)), (7, .func (.func 105) #[] #[.pointer (some ⟨m.length + 2, 0, none⟩), .pointer (some ⟨m.length + 0, 0, none⟩)]), (12, .int .i64 (2 + kk : Nat)), (13, .int .i64 (i + 1 + 1 : Nat))], [], by omega, (Back.trim rfl rfl (by repeat (exact CellsOk.nil)) (by repeat (first | exact trivial | (refine And.intro ⟨rfl, by (first | exact Low.rid (by assumption) (by simp) | exact .int _ _)⟩ ?_)))), i + 1, rfl, by omega, fun j hj => by
                rcases Nat.lt_succ_iff_lt_or_eq.1 hj with h' | h'
                · exact hall j h'
                · rw [h', hct], rfl, rfl⟩
          · have hnl := no_lq (q := ctQ B K r d) (n := r.len d - 1) fun j hj => hall j (by omega)
            (repeat (first | (with_reducible refine AWo.cons ?_) | ((with_reducible refine Step.id ?_); first | ((with_reducible apply Step.move); exact rfl; exact rfl) | ((with_reducible apply Step.assign); exact rfl; exact rfl) | ((with_reducible apply Step.loadL (n := 4)); exact rfl; (focus (decide +kernel)); (focus (decide +kernel)); exact rfl; (focus (exact y4 _)); exact rfl; exact rfl) | ((with_reducible apply Step.add); exact rfl; exact rfl; (focus (omega)); exact rfl) | ((with_reducible apply Step.lss); exact rfl; exact rfl; exact rfl) | ((with_reducible apply Step.callR fit); exact rfl; exact Tryd.func80; exact rfl; exact rfl; exact (hL _))) | (with_reducible refine AWo.nil ?_) | ((with_reducible apply AW.seq)) | ((with_reducible apply Then.n)) | ((with_reducible apply AW.regL)) | ((with_reducible apply AW.exit)) | ((with_reducible apply InBlk.n)) | ((with_reducible apply InBlk.hit)) | ((with_reducible apply Then.e)) | ((with_reducible apply AW.condF); exact rfl; (focus ((simp only [decide_eq_true_eq, decide_eq_false_iff_not, Bool.not_eq_true', Bool.not_eq_false', Bool.not_true, Bool.not_false]; first | assumption | omega))))))
            refine ⟨_, [(3, .pointer (some ⟨m.length + 0, 0, none⟩)), (4, .pointer (some ⟨m.length + 1, 0, none⟩)), (5, .pointer (some ⟨m.length + 2, 0, none⟩)), (7, .func (.func 105) #[] #[.pointer (some ⟨m.length + 2, 0, none⟩), .pointer (some ⟨m.length + 0, 0, none⟩)]), (12, .int .i64 (2 + (kk + 1) : Nat))], [], by omega, (Or.inl ⟨rfl, (by repeat (first | exact trivial | (refine And.intro rfl ?_)))⟩), kk + 1, rfl, by omega, fun _ => ?_, fun h => ?_, rfl, rfl⟩
            · rcases (show kk = 0 ∨ kk = 1 by omega) with rfl | rfl
              · have hd : d = true := hd
                subst hd
                exact hnl
              · exact hn1 (Nat.le_refl _)
            · obtain rfl : kk = 1 := by omega
              have hd : d = false := hd
              subst hd
              exact hnl
        · exfalso
          exact hn2 hk2 (plan_open hr h0 hnp (hn1 (by omega)))
end Go.Proofs.YtibhgdglbillaaaDoor.Abs
namespace Go.Proofs.YtibhgdglbillaaaDoor.Abs
set_option linter.unusedSimpArgs false
set_option linter.unusedVariables false
open Go.RowKit
open Go.Proofs.YtibhgdglbillaaaDoor.Sim
open Go.Proofs
set_option maxHeartbeats 8000000 in
set_option maxRecDepth 100000 in
theorem Plan_no {m : AM} {sv kv : Value} {B : Brd} {K : List Kd} (hs : Strs m sv B) (hk : Kds m kv K) (hg : goodB B K = false) :
    ACall Tryd.prog 34 #[sv, kv] m (Ret (.tuple #[.slice none 0 0, .int .i64 2]) m) := by
  have hN := fun T => newBoard_no (hs.old T) (hk.old T) hg
  refine ACall.start Tryd.func34 rfl rfl ?_
  (repeat (first | (with_reducible refine AWo.cons ?_) | ((with_reducible refine Step.id ?_); first | ((with_reducible apply Step.move); exact rfl; exact rfl) | ((with_reducible apply Step.assign); exact rfl; exact rfl) | ((with_reducible apply Step.ptrNil); exact rfl; exact rfl; exact un100; exact rfl) | ((with_reducible apply Step.callR fit); exact rfl; exact Tryd.func65; exact rfl; exact rfl; exact (hN _))) | (with_reducible refine AWo.nil ?_) | ((with_reducible apply AW.seq)) | ((with_reducible apply Then.n)) | ((with_reducible apply AW.regL)) | ((with_reducible apply AW.condT); exact rfl; (focus (rfl)))))
  (refine AW.retD (l := [(4, _), (5, _)]) (by repeat (first | exact trivial | (refine And.intro ⟨rfl, by (first | exact .int _ _ | exact Ren.of_g0 rfl)⟩ ?_))) ?_; (repeat (first | refine Then.r ?_ | refine InBlk.r ?_)))
  exact ⟨_, rfl, rfl, rfl⟩
/-- The plan of a board. -/
def planM (B : Brd) (K : List Kd) : List Nd := plM B K 32 (wholeR B)
set_option maxHeartbeats 8000000 in
set_option maxRecDepth 100000 in
theorem Plan_ok {m : AM} {sv kv : Value} {B : Brd} {K : List Kd} (hs : Strs m sv B) (hk : Kds m kv K) (hg : goodB B K = true) :
    ACall Tryd.prog 34 #[sv, kv] m (More (fun M v => ∃ w, v = .tuple #[w, .int .i64 0] ∧ PL m.length (planM B K) M w) m) := by
  have hgb : boardB B = true := by simp only [goodB, Bool.and_eq_true] at hg; exact hg.1
  have hin := good_in hgb
  have hok : (wholeR B).ok (bw B) (bh B) := by
    simp only [R4.ok, wholeR]
    omega
  have hsz : (wholeR B).size ≤ 32 := by
    simp only [R4.size, wholeR]
    omega
  refine ACall.start Tryd.func34 rfl rfl ?_
  (repeat (first | (with_reducible refine AWo.cons ?_) | ((with_reducible refine Step.id ?_); first | ((with_reducible apply Step.move); exact rfl; exact rfl) | ((with_reducible apply Step.assign); exact rfl; exact rfl)) | (with_reducible refine AWo.nil ?_) | ((with_reducible apply AW.seq)) | ((with_reducible apply Then.n)) | ((with_reducible apply AW.regL))))
  ((with_reducible apply Step.callX fit); exact rfl; exact Tryd.func65; exact rfl; exact rfl; exact (newBoard_ok (hs.old _) (hk.old _) hg))
  rintro v m1 ⟨N1, hN1⟩ ⟨p, hp, rfl, hB⟩
  have w1 := fun T => whole_ok (hB.old T)
  have hb2 : ∀ T, ACall Tryd.prog 66 #[.pointer (some ⟨p, 0, none⟩)] (m1 ++ T) _ := fun T => best_ok (hB.old T) hg
  change ∀ T, ACall Tryd.prog 67 _ _ (Ret (.agg (wholeR B).rc.cells.toArray) _) at w1
  have hP := fun {M : AM} {q : Nat} (h1 : BoardAt M p B K) (h2 : M[q]? = some (some { cells := iv (boardT B K) })) => planF_ok hg 32 (Nat.le_refl _) hok hsz h1 h2
  generalize (wholeR B).rc = rr at *
  (repeat (first | (with_reducible refine AWo.cons ?_) | ((with_reducible refine Step.id ?_); first | ((with_reducible apply Step.move); exact rfl; exact rfl) | ((with_reducible apply Step.assign); exact rfl; exact rfl) | ((with_reducible apply Step.ptrNot); exact rfl; exact rfl; exact un100; exact rfl) | ((with_reducible apply Step.callR fit); exact rfl; exact Tryd.func67; exact rfl; exact rfl; exact (w1 _))) | (with_reducible refine AWo.nil ?_) | ((with_reducible apply AW.seq)) | ((with_reducible apply Then.n)) | ((with_reducible apply AW.regL)) | ((with_reducible apply AW.skip)) | ((with_reducible apply AW.condF); exact rfl; (focus (rfl)))))
  ((with_reducible apply Step.callX fit); exact rfl; exact Tryd.func66; exact rfl; exact rfl; exact (hb2 _))
  rintro v m2 ⟨N2, hN2⟩ ⟨q, hq, rfl, hqc⟩
  have x1 : BoardAt m2 p B K := by rw [hN2]; exact (hB.old _).old _
  (repeat ((with_reducible refine AWo.cons ?_)))
  ((with_reducible apply Step.callX fit); exact rfl; exact Tryd.func84; exact rfl; exact rfl; exact (hP (x1.old _) (get_old _ hqc)))
  rintro v m3 ⟨N3, hN3⟩ ⟨a, kd, sz, q1, rfl, q2, q3, q4⟩
  have hm3 : ∃ N, m3 = m ++ N := ⟨N1 ++ (N2 ++ N3), by rw [hN3, hN2, hN1]; simp⟩
  have hma : m.length ≤ a := by
    rw [hN2, hN1] at q1
    simp only [List.length_append] at q1
    omega
  clear hN1 hN2 hN3
  (repeat (first | (with_reducible refine AWo.cons ?_) | ((with_reducible refine Step.id ?_); ((with_reducible apply Step.assign); exact rfl; exact rfl)) | (with_reducible refine AWo.nil ?_) | ((with_reducible apply Then.n))))
  (refine AW.ret ?_; (repeat (first | refine Then.r ?_ | refine InBlk.r ?_)))
  obtain ⟨N, hN⟩ := hm3
  exact ⟨_, rfl, N ++ [], by rw [hN, List.append_assoc], _, rfl, a, kd, sz, hma, rfl, q2, by rw [List.append_nil]; exact q3, q4⟩
/-- A row of nodes in memory. -/
def Nds (m : AM) (v : Value) (l : List Nd) : Prop := ∃ a o, Sl v a o l.length ∧ a < m.length ∧ ∀ i, i < l.length → RdL m a (o + i * 3) (ndc1 (l.getD i (0, 0, false)))
theorem Nds.old {m : AM} {v : Value} {l : List Nd} (h : Nds m v l) (L : AM) : Nds (m ++ L) v l := by
  obtain ⟨a, o, h1, h2, h3⟩ := h
  exact ⟨a, o, h1, by rw [List.length_append]; omega, fun i hi => (h3 i hi).old L⟩
theorem Nds.of_pl {m : AM} {v : Value} {l : List Nd} {b0 : Nat} (h : PL b0 l m v) : Nds m v l := by
  obtain ⟨a, kd, sz, _, rfl, h2, h3, _⟩ := h
  exact ⟨a, 0, Sl.mk (Nat.le_refl _), (List.getElem?_eq_some_iff.1 h3).1, fun i hi => ⟨_, h3, fun j v hj => by rw [Nat.zero_add]; exact ndc_get l i hi j v hj⟩⟩
theorem Nds.nil {m : AM} (hM : 0 < m.length) : Nds m (.slice none 0 0) [] := ⟨0, 0, .inl ⟨rfl, rfl⟩, hM, fun i hi => by simp at hi⟩
theorem nds_gv {m L : AM} {k : Nat} {l : List Nd} (h : L[k]? = some (gb (ndc l) 3)) : Nds (m ++ L) (gv (m.length + k) l.length) l := by
  have hlt : m.length + k < (m ++ L).length := by
    rw [List.length_append]
    have := (List.getElem?_eq_some_iff.1 h).1
    omega
  refine ⟨m.length + k, 0, gv_sl _ _, hlt, fun i hi => ?_⟩
  have hp : 0 < (ndc l).length := by rw [ndc_len]; omega
  rw [gb_pos hp] at h
  exact ⟨_, by rw [get_app]; exact h, fun j v hj => by rw [Nat.zero_add]; exact ndc_get l i hi j v hj⟩
theorem ze121 : zeroB Tryd.prog 121 = some #[.int .i64 0, .int .i64 0, .bool false] := by kernel_rfl
theorem bl63' {a b : Int} {c : Bool} : abuild Tryd.prog 63 [(0, .int .i64 a), (1, .int .i64 b), (2, .bool c)] = some (.agg #[.int .i64 a, .int .i64 b, .bool c]) := by kernel_rfl
theorem bs58' {m : AM} {k : Nat} {a b : Int} {c : Bool} : abuildSlice Tryd.prog m k 58 1 [(0, .agg #[.int .i64 a, .int .i64 b, .bool c])] = some (.slice (some ⟨k, 0, none⟩) 1 1, m.set k (some { cells := [.int .i64 a, .int .i64 b, .bool c] })) := by kernel_rfl
theorem el58' : elemB Tryd.prog 58 = some (63, 3, 24, #[.int .i64 0, .int .i64 0, .bool false]) := by kernel_rfl
theorem un58' : Tryd.prog.underlying 58 = some (.slice 63) := by kernel_rfl
set_option maxHeartbeats 4000000 in
set_option maxRecDepth 100000 in
theorem own_ok {m : AM} {kv : Value} {K : List Nd} (hk : Nds m kv K) (hlen : K.length ≤ 4294967296) : ACall Tryd.prog 37 #[kv] m (NewG (ndc K) 3 K.length m) := by
  obtain ⟨A, O, sl, la, rd⟩ := hk
  obtain ⟨q, c, rfl⟩ := sl.shape
  have wl : Low m.length (.slice q K.length c) := Low.of_sl sl la
  refine ACall.start Tryd.func37 rfl rfl ?_
  (repeat (first | (with_reducible refine AWo.cons ?_) | ((with_reducible refine Step.id ?_); first | ((with_reducible apply Step.move); exact rfl; exact rfl) | ((with_reducible apply Step.assign); exact rfl; exact rfl) | ((with_reducible apply Step.len); exact rfl; (focus (assumption)); (focus (decide +kernel)); exact rfl)) | (with_reducible refine AWo.nil ?_) | ((with_reducible apply AW.seq)) | ((with_reducible apply Then.n)) | ((with_reducible apply AW.regL)) | ((with_reducible apply AW.block))))
  refine AW.loopT (fun n t L => ∃ i : Nat, n = K.length - i ∧ i ≤ K.length ∧ L = [gb (ndc (K.take i)) 3] ∧
    t = [(3, gv (m.length + 0) i), (6, .slice q K.length c), (7, .int .i64 (K.length : Nat)), (8, .int .i64 (i : Nat))])
    ⟨_, _, [none], (Back.padC rfl (by repeat (first | exact trivial | (refine And.intro ⟨rfl, by (first | exact Low.rid (by assumption) (by simp) | exact .int _ _ | exact Ren.of_gv (by first | (simp; done) | omega | (simp; omega)))⟩ ?_))) (by repeat (exact CellsP.nil))), 0, rfl, Nat.zero_le _, rfl, rfl⟩ ?_
  rintro n t L ⟨i, rfl, hi, rfl, rfl⟩
  rcases Nat.lt_or_ge i K.length with hlt | hge
  · have rk := rd i hlt
    have hs : K.take (i + 1) = K.take i ++ [K.getD i (0, 0, false)] := take_snoc K i (0, 0, false) hlt
    generalize K.getD i (0, 0, false) = k at rk hs
    obtain ⟨ka, kb, kc⟩ := k
    simp only [ndc1] at rk
    have hpl : (ndc (K.take i)).length = i * 3 := by rw [ndc_len, List.length_take]; congr 1; omega
    have hg0 := g0_ndc (K.take (i + 1))
    have hcc : ndc (K.take (i + 1)) = ndc (K.take i) ++ [.int .i64 ka, .int .i64 kb, .bool kc] := by rw [hs, ndc_app]; rfl
    rw [hcc] at hg0
    (repeat (first | (with_reducible refine AWo.cons ?_) | ((with_reducible refine Step.id ?_); first | ((with_reducible apply Step.move); exact rfl; exact rfl) | ((with_reducible apply Step.load); exact rfl; (focus (decide +kernel)); exact rfl; (focus (exact Rd.new rfl rfl))) | ((with_reducible apply Step.loadL (n := 3)); exact rfl; (focus (decide +kernel)); (focus (decide +kernel)); exact rfl; (focus (exact RdL.old _ (by assumption))); exact rfl; exact rfl) | ((with_reducible apply Step.ix (s := 3)); exact rfl; (focus (assumption)); exact rfl; (focus (decide +kernel)); exact rfl; (focus (omega))) | ((with_reducible apply Step.field0); exact rfl; (focus (decide +kernel)); exact rfl) | ((with_reducible apply Step.field (k := 1)); exact rfl; (focus (decide +kernel)); exact rfl) | ((with_reducible apply Step.field (k := 2)); exact rfl; (focus (decide +kernel)); exact rfl) | ((with_reducible apply Step.lss); exact rfl; exact rfl; exact rfl) | ((with_reducible apply Step.alloc 1); exact rfl; exact ze121; exact rfl; (focus (first | (simp only [List.nil_append, List.cons_append, List.set_cons_zero, List.set_cons_succ, iv_set, bv_set, iv_rep, bv_rep]; done) | (simp only [List.nil_append, List.cons_append, List.set_cons_zero, List.set_cons_succ, iv_set, bv_set, iv_rep, bv_rep]; rfl) | rfl))) | ((with_reducible apply Step.storeA (k := 1) (n := 3)); exact rfl; exact rfl; exact rfl; exact rfl; (focus (decide +kernel)); exact rfl; (focus (kernel_rfl)); exact rfl; (focus (first | (simp only [List.nil_append, List.cons_append, List.set_cons_zero, List.set_cons_succ, iv_set, bv_set, iv_rep, bv_rep]; done) | (simp only [List.nil_append, List.cons_append, List.set_cons_zero, List.set_cons_succ, iv_set, bv_set, iv_rep, bv_rep]; rfl) | rfl))) | ((with_reducible apply Step.buildS 2); exact rfl; exact rfl; exact (fun _ _ => bs58'); exact rfl; (focus (first | (simp only [List.nil_append, List.cons_append, List.set_cons_zero, List.set_cons_succ, iv_set, bv_set, iv_rep, bv_rep]; done) | (simp only [List.nil_append, List.cons_append, List.set_cons_zero, List.set_cons_succ, iv_set, bv_set, iv_rep, bv_rep]; rfl) | rfl))) | ((with_reducible apply Step.build); exact rfl; exact bl63'; exact rfl)) | (with_reducible refine AWo.nil ?_) | ((with_reducible apply AW.seq)) | ((with_reducible apply Then.n)) | ((with_reducible apply AW.regL)) | ((with_reducible apply AW.block)) | ((with_reducible apply AW.skip)) | ((with_reducible apply AW.condT); exact rfl; (focus ((simp only [decide_eq_true_eq, decide_eq_false_iff_not, Bool.not_eq_true', Bool.not_eq_false', Bool.not_true, Bool.not_false]; first | assumption | omega))))))
    ((with_reducible apply Step.appG (k := 3) (q := 0) (r := 2) (n := i) (xl := 1)); exact rfl; exact rfl; exact rfl; exact el58'; exact un58'; exact rfl; exact rfl; exact rfl; exact hpl; exact rfl; exact rfl; (focus (kernel_rfl)); (focus (omega)); exact rfl; (focus (first | (simp only [List.nil_append, List.cons_append, List.set_cons_zero, List.set_cons_succ, iv_set, bv_set, iv_rep, bv_rep]; done) | (simp only [List.nil_append, List.cons_append, List.set_cons_zero, List.set_cons_succ, iv_set, bv_set, iv_rep, bv_rep]; rfl) | rfl)))
    (repeat (first | (with_reducible refine AWo.cons ?_) | ((with_reducible refine Step.id ?_); first | ((with_reducible apply Step.move); exact rfl; exact rfl) | ((with_reducible apply Step.assign); exact rfl; exact rfl) | ((with_reducible apply Step.add); exact rfl; exact rfl; (focus (omega)); exact rfl)) | (with_reducible refine AWo.nil ?_) | ((with_reducible apply Then.n)) | ((with_reducible apply AW.regL)) | ((with_reducible apply InBlk.n))))
    exact ⟨_, [(3, .slice (some ⟨m.length + 0, 0, none⟩) (i + 1) (i + 1)), (6, .slice q K.length c), (7, .int .i64 (K.length : Nat)), (8, .int .i64 (i + 1 : Nat))], [some { cells := ndc (K.take i) ++ [.int .i64 ka, .int .i64 kb, .bool kc], kind := .grow, size := 3 }], by omega, (Back.mv 0 3 rfl rfl rfl rfl (by intro j b hj h; rcases j with _ | _ | _ | _ | _ | _ | j <;> simp_all) (by repeat (first | exact CellsOk.nil | refine CellsOk.cons (by assumption) ?_)) (by repeat (first | exact trivial | (refine And.intro ⟨_, rfl, by (first | exact Low.ne (by assumption) (by simp) | exact .int _ _ | exact Ren.slice_mv (by first | (simp; done) | omega | (simp; omega)))⟩ ?_)))), i + 1, rfl, by omega, by rw [hcc, gb_pos (by simp)], by rw [gv_pos (by omega)]⟩
  · obtain rfl : i = K.length := by omega
    have hg0 := g0_ndc (K.take K.length)
    (repeat (first | (with_reducible refine AWo.cons ?_) | ((with_reducible refine Step.id ?_); first | ((with_reducible apply Step.move); exact rfl; exact rfl) | ((with_reducible apply Step.assign); exact rfl; exact rfl) | ((with_reducible apply Step.lss); exact rfl; exact rfl; exact rfl)) | (with_reducible refine AWo.nil ?_) | ((with_reducible apply AW.seq)) | ((with_reducible apply Then.n)) | ((with_reducible apply AW.regL)) | ((with_reducible apply AW.exit)) | ((with_reducible apply InBlk.hit)) | ((with_reducible apply Then.e)) | ((with_reducible apply AW.condF); exact rfl; (focus ((simp only [decide_eq_true_eq, decide_eq_false_iff_not, Bool.not_eq_true', Bool.not_eq_false', Bool.not_true, Bool.not_false]; first | assumption | omega))))))
    (refine AW.retB (l := [(2, _)]) (Or.inl ⟨rfl, (by repeat (first | exact trivial | (refine And.intro rfl ?_)))⟩) ?_; (repeat (first | refine Then.r ?_ | refine InBlk.r ?_)))
    exact ⟨_, rfl, rfl, by rw [List.take_of_length_le (Nat.le_refl _)]⟩
end Go.Proofs.YtibhgdglbillaaaDoor.Abs
